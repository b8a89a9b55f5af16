/- Chapter 51: LawdiffInterface (plain law). -/
import Derived.Test.YtacochphlicngaaModel
import Derived.Test.YtacochphlicngaaWp
import Derived.Test.YtacochphlicngaaOpen
namespace Go.Proofs.Ytacochphlicngaa
open Go Go.RowKit
set_option maxRecDepth 100000
namespace L

theorem awake51 : M.law51_awake big = some true := by kernel_rfl

/-- A loop over places that stops at the first that fails. -/
theorem scan {B : Int → Option (Int ⊕ Bool)} {m : Nat} (p : Nat → Prop) (hm : m ≤ maxLen) (h1 : ∀ k, k < m → p k → B (k : Int) = some (.inl ((k + 1 : Nat) : Int))) (h2 : ∀ k, k < m → ¬ p k → B (k : Int) = some (.inr false)) (he : B (m : Int) = some (.inr true)) :
    (∀ k, k < m → p k) ∧ Loop B big 0 = some true ∨ (∃ k, k < m ∧ ¬ p k) ∧ Loop B big 0 = some false := by
  have hb : m < big := by unfold maxLen at hm; unfold big; omega
  by_cases hall : ∀ k, k < m → p k
  · exact .inl ⟨hall, Loop_eq (fun i => (i : Int)) m true rfl (fun i hi => h1 i hi (hall i hi)) he hb⟩
  · right
    have hex : ∃ k, k < m ∧ ¬ p k := by
      refine Classical.byContradiction fun hn => hall fun k hk => Classical.byContradiction fun hp => hn ⟨k, hk, hp⟩
    refine ⟨hex, ?_⟩
    have : ∃ k, (k < m ∧ ¬ p k) ∧ ∀ j, j < k → ¬ (j < m ∧ ¬ p j) := by
      obtain ⟨k, hk⟩ := hex
      induction k using Nat.strongRecOn with
      | ind k ih =>
        by_cases hmin : ∀ j, j < k → ¬ (j < m ∧ ¬ p j)
        · exact ⟨k, hk, hmin⟩
        · have : ∃ j, j < k ∧ (j < m ∧ ¬ p j) := Classical.byContradiction fun hn => hmin fun j hj hjj => hn ⟨j, hj, hjj⟩
          obtain ⟨j, hj, hjj⟩ := this
          exact ih j hj hjj
    obtain ⟨k, ⟨hk, hp⟩, hmin⟩ := this
    exact Loop_eq (fun i => (i : Int)) k false rfl (fun i hi => h1 i (by omega) (Classical.byContradiction fun hq => hmin i hi ⟨by omega, hq⟩)) (h2 k hk hp) (by omega)

/-- What a comparison of two lists, place by place, says. -/
theorem cmp {α : Type} {a b : List α} {B : Int → Option (Int ⊕ Bool)} (rel : α → α → Prop) (hl : a.length ≤ maxLen) (hab : a.length = b.length)
    (h1 : ∀ k (ha : k < a.length) (hb : k < b.length), rel a[k] b[k] → B (k : Int) = some (.inl ((k + 1 : Nat) : Int))) (h2 : ∀ k (ha : k < a.length) (hb : k < b.length), ¬ rel a[k] b[k] → B (k : Int) = some (.inr false)) (he : B (a.length : Int) = some (.inr true)) :
    (∀ k (ha : k < a.length) (hb : k < b.length), rel a[k] b[k]) ∧ Loop B big 0 = some true ∨ ¬ (∀ k (ha : k < a.length) (hb : k < b.length), rel a[k] b[k]) ∧ Loop B big 0 = some false := by
  rcases scan (B := B) (m := a.length) (fun k => ∀ (ha : k < a.length) (hb : k < b.length), rel a[k] b[k]) hl (fun k hk hp => h1 k hk (by omega) (hp hk (by omega))) (fun k hk hp => h2 k hk (by omega) fun hr => hp fun _ _ => hr) he with ⟨g1, g2⟩ | ⟨⟨k, hk, g1⟩, g2⟩
  · exact .inl ⟨fun k ha hb => g1 k ha ha hb, g2⟩
  · exact .inr ⟨fun h => g1 (h k), g2⟩

theorem all_eq {α β : Type} {f : α → β} {a b : List α} (hab : a.length = b.length) : (∀ k (ha : k < a.length) (hb : k < b.length), f a[k] = f b[k]) ↔ a.map f = b.map f := by
  constructor
  · intro h
    exact List.ext_getElem (by simpa using hab) fun k h1 h2 => by simpa using h k (by simpa using h1) (by simpa using h2)
  · intro h k ha hb
    have := congrArg (fun l => l[k]?) h
    simpa [ha, hb] using this

theorem cmpE {α : Type} {a b : List α} {B : Int → Option (Int ⊕ Bool)} {Q : Prop} (rel : α → α → Prop) (hQ : (∀ k (ha : k < a.length) (hb : k < b.length), rel a[k] b[k]) ↔ Q) (hl : a.length ≤ maxLen) (hab : a.length = b.length)
    (h1 : ∀ k (ha : k < a.length) (hb : k < b.length), rel a[k] b[k] → B (k : Int) = some (.inl ((k + 1 : Nat) : Int))) (h2 : ∀ k (ha : k < a.length) (hb : k < b.length), ¬ rel a[k] b[k] → B (k : Int) = some (.inr false)) (he : B (a.length : Int) = some (.inr true)) :
    ∃ r, Loop B big 0 = some r ∧ (r = true ↔ Q) := by
  rcases cmp rel hl hab h1 h2 he with ⟨g1, g2⟩ | ⟨g1, g2⟩
  · exact ⟨true, g2, by simp [hQ.1 g1]⟩
  · exact ⟨false, g2, by simp only [Bool.false_eq_true, false_iff]; exact fun h => g1 (hQ.2 h)⟩

theorem all_id {α : Type} {a b : List α} (hab : a.length = b.length) : (∀ k (ha : k < a.length) (hb : k < b.length), a[k] = b[k]) ↔ a = b := by
  have := all_eq (f := fun x : α => x) hab
  simpa using this

theorem lt_dec {k m : Nat} (h : k < m) : decide ((k : Int) < (m : Int)) = true := by simpa using h
theorem nlt_dec (m : Nat) : decide ((m : Int) < (m : Int)) = false := by simp
theorem ws {k m : Nat} (h : k < m) (hm : m ≤ maxLen) : IntKind.i64.wrap ((k : Int) + 1) = ((k + 1 : Nat) : Int) := wrap_succ (by unfold maxLen at hm; omega)
theorem ne_len {α β : Type} {a : List α} {b : List β} (h : a.length ≠ b.length) : (!decide ((a.length : Int) = (b.length : Int))) = true := by simp; omega
theorem eq_len {α β : Type} {a : List α} {b : List β} (h : a.length = b.length) : (!decide ((a.length : Int) = (b.length : Int))) = false := by simp [h]
theorem neqR {r : Row} {x y : r.den} (h : ¬ x = y) : eqR r x y = false := eqR_false.2 h
theorem yeqR {r : Row} {x y : r.den} (h : x = y) : eqR r x y = true := eqR_iff.2 h
theorem no_eq {α : Type} {a b : List α} (h : a.length ≠ b.length) {Q : Prop} (hQ : Q → a.length = b.length) : ∃ r, (some false : Option Bool) = some r ∧ (r = true ↔ Q) := ⟨false, rfl, by simp only [Bool.false_eq_true, false_iff]; exact fun q => h (hQ q)⟩

theorem slices_Equal_guerdon_api_Field_guerdon_api_Field_P (a b : List rField.den) (hl : a.length ≤ maxLen) : ∃ r, M.slices_Equal_guerdon_api_Field_guerdon_api_Field big a b = some r ∧ (r = true ↔ a = b) := by
  unfold M.slices_Equal_guerdon_api_Field_guerdon_api_Field
  by_cases hab : a.length = b.length
  · rw [eq_len hab, if_neg (by simp)]
    refine cmpE (fun x y => x = y) (all_id hab) hl hab (fun k ha hb hr => ?_) (fun k ha hb hr => ?_) ?_
    · simp only [lt_dec ha, if_true, idx_nat ha, idx_nat hb, Option.bind_some, yeqR hr, Bool.not_true, Bool.false_eq_true, if_false, ws ha hl]
    · simp only [lt_dec ha, if_true, idx_nat ha, idx_nat hb, Option.bind_some, neqR hr, Bool.not_false]
    · simp only [nlt_dec, Bool.false_eq_true, if_false]
  · rw [ne_len hab, if_pos rfl]
    exact no_eq hab fun e => by rw [e]

theorem slices_Equal_guerdon_api_Row_guerdon_api_Row_P (a b : List rRow.den) (hl : a.length ≤ maxLen) : ∃ r, M.slices_Equal_guerdon_api_Row_guerdon_api_Row big a b = some r ∧ (r = true ↔ a = b) := by
  unfold M.slices_Equal_guerdon_api_Row_guerdon_api_Row
  by_cases hab : a.length = b.length
  · rw [eq_len hab, if_neg (by simp)]
    refine cmpE (fun x y => x = y) (all_id hab) hl hab (fun k ha hb hr => ?_) (fun k ha hb hr => ?_) ?_
    · simp only [lt_dec ha, if_true, idx_nat ha, idx_nat hb, Option.bind_some, yeqR hr, Bool.not_true, Bool.false_eq_true, if_false, ws ha hl]
    · simp only [lt_dec ha, if_true, idx_nat ha, idx_nat hb, Option.bind_some, neqR hr, Bool.not_false]
    · simp only [nlt_dec, Bool.false_eq_true, if_false]
  · rw [ne_len hab, if_pos rfl]
    exact no_eq hab fun e => by rw [e]

theorem slices_Equal_guerdon_api_Node_guerdon_api_Node_P (a b : List rType.den) (hl : a.length ≤ maxLen) : ∃ r, M.slices_Equal_guerdon_api_Node_guerdon_api_Node big a b = some r ∧ (r = true ↔ a = b) := by
  unfold M.slices_Equal_guerdon_api_Node_guerdon_api_Node
  by_cases hab : a.length = b.length
  · rw [eq_len hab, if_neg (by simp)]
    refine cmpE (fun x y => x = y) (all_id hab) hl hab (fun k ha hb hr => ?_) (fun k ha hb hr => ?_) ?_
    · simp only [lt_dec ha, if_true, idx_nat ha, idx_nat hb, Option.bind_some, yeqR hr, Bool.not_true, Bool.false_eq_true, if_false, ws ha hl]
    · simp only [lt_dec ha, if_true, idx_nat ha, idx_nat hb, Option.bind_some, neqR hr, Bool.not_false]
    · simp only [nlt_dec, Bool.false_eq_true, if_false]
  · rw [ne_len hab, if_pos rfl]
    exact no_eq hab fun e => by rw [e]

theorem slices_Equal_string_string_P (a b : List ByteArray) (hl : a.length ≤ maxLen) : ∃ r, M.slices_Equal_string_string big a b = some r ∧ (r = true ↔ a = b) := by
  unfold M.slices_Equal_string_string
  by_cases hab : a.length = b.length
  · rw [eq_len hab, if_neg (by simp)]
    refine cmpE (fun x y => x = y) (all_id hab) hl hab (fun k ha hb hr => ?_) (fun k ha hb hr => ?_) ?_
    · simp only [lt_dec ha, if_true, idx_nat ha, idx_nat hb, Option.bind_some, decide_eq_true hr, Bool.not_true, Bool.false_eq_true, if_false, ws ha hl]
    · simp only [lt_dec ha, if_true, idx_nat ha, idx_nat hb, Option.bind_some, decide_eq_false hr, Bool.not_false]
    · simp only [nlt_dec, Bool.false_eq_true, if_false]
  · rw [ne_len hab, if_pos rfl]
    exact no_eq hab fun e => by rw [e]

theorem same_Strings_P (a b : List ByteArray) (hl : a.length ≤ maxLen) : ∃ r, M.same_Strings big a b = some r ∧ (r = true ↔ a = b) := by
  unfold M.same_Strings
  by_cases hab : a.length = b.length
  · rw [eq_len hab, if_neg (by simp)]
    refine cmpE (fun x y => x = y) (all_id hab) hl hab (fun k ha hb hr => ?_) (fun k ha hb hr => ?_) ?_
    · simp only [lt_dec ha, lt_dec hb, if_true, idx_nat ha, idx_nat hb, Option.bind_some, decide_eq_true hr, Bool.not_true, Bool.false_eq_true, if_false, ws ha hl]
    · simp only [lt_dec ha, lt_dec hb, if_true, idx_nat ha, idx_nat hb, Option.bind_some, decide_eq_false hr, Bool.not_false]
    · simp only [nlt_dec, Bool.false_eq_true, if_false, Option.bind_some]
  · rw [ne_len hab, if_pos rfl]
    exact no_eq hab fun e => by rw [e]

theorem same_Rows_P (a b : List rRow.den) (hl : a.length ≤ maxLen) : ∃ r, M.same_Rows big a b = some r ∧ (r = true ↔ a = b) := by
  unfold M.same_Rows
  by_cases hab : a.length = b.length
  · rw [eq_len hab, if_neg (by simp)]
    refine cmpE (fun x y => x = y) (all_id hab) hl hab (fun k ha hb hr => ?_) (fun k ha hb hr => ?_) ?_
    · simp only [lt_dec ha, lt_dec hb, if_true, idx_nat ha, idx_nat hb, Option.bind_some, yeqR hr, Bool.not_true, Bool.false_eq_true, if_false, ws ha hl]
    · simp only [lt_dec ha, lt_dec hb, if_true, idx_nat ha, idx_nat hb, Option.bind_some, neqR hr, Bool.not_false]
    · simp only [nlt_dec, Bool.false_eq_true, if_false, Option.bind_some]
  · rw [ne_len hab, if_pos rfl]
    exact no_eq hab fun e => by rw [e]

theorem same_Fields_P (a b : List rField.den) (hl : a.length ≤ maxLen) : ∃ r, M.same_Fields big a b = some r ∧ (r = true ↔ a = b) := by
  unfold M.same_Fields
  by_cases hab : a.length = b.length
  · rw [eq_len hab, if_neg (by simp)]
    refine cmpE (fun x y => x = y) (all_id hab) hl hab (fun k ha hb hr => ?_) (fun k ha hb hr => ?_) ?_
    · simp only [lt_dec ha, lt_dec hb, if_true, idx_nat ha, idx_nat hb, Option.bind_some, yeqR hr, Bool.not_true, Bool.false_eq_true, if_false, ws ha hl]
    · simp only [lt_dec ha, lt_dec hb, if_true, idx_nat ha, idx_nat hb, Option.bind_some, neqR hr, Bool.not_false]
    · simp only [nlt_dec, Bool.false_eq_true, if_false, Option.bind_some]
  · rw [ne_len hab, if_pos rfl]
    exact no_eq hab fun e => by rw [e]

theorem same_Nodes_P (a b : List rType.den) (hl : a.length ≤ maxLen) : ∃ r, M.same_Nodes big a b = some r ∧ (r = true ↔ a = b) := by
  unfold M.same_Nodes
  by_cases hab : a.length = b.length
  · rw [eq_len hab, if_neg (by simp)]
    refine cmpE (fun x y => x = y) (all_id hab) hl hab (fun k ha hb hr => ?_) (fun k ha hb hr => ?_) ?_
    · simp only [lt_dec ha, lt_dec hb, if_true, idx_nat ha, idx_nat hb, Option.bind_some, yeqR hr, Bool.not_true, Bool.false_eq_true, if_false, ws ha hl]
    · simp only [lt_dec ha, lt_dec hb, if_true, idx_nat ha, idx_nat hb, Option.bind_some, neqR hr, Bool.not_false]
    · simp only [nlt_dec, Bool.false_eq_true, if_false, Option.bind_some]
  · rw [ne_len hab, if_pos rfl]
    exact no_eq hab fun e => by rw [e]

theorem same_Changes_P (a b : List rChange.den) (hl : a.length ≤ maxLen) : ∃ r, M.same_Changes big a b = some r ∧ (r = true ↔ a = b) := by
  unfold M.same_Changes
  by_cases hab : a.length = b.length
  · rw [eq_len hab, if_neg (by simp)]
    refine cmpE (fun x y => x = y) (all_id hab) hl hab (fun k ha hb hr => ?_) (fun k ha hb hr => ?_) ?_
    · simp only [lt_dec ha, lt_dec hb, if_true, idx_nat ha, idx_nat hb, Option.bind_some, yeqR hr, Bool.not_true, Bool.false_eq_true, if_false, ws ha hl]
    · simp only [lt_dec ha, lt_dec hb, if_true, idx_nat ha, idx_nat hb, Option.bind_some, neqR hr, Bool.not_false]
    · simp only [nlt_dec, Bool.false_eq_true, if_false, Option.bind_some]
  · rw [ne_len hab, if_pos rfl]
    exact no_eq hab fun e => by rw [e]

theorem fin1 {c : Prop} [Decidable c] {m : Option Bool} {Q : Prop} (h : ∃ r, m = some r ∧ (r = true ↔ Q)) : ∃ r, (if decide c = true then m else some false) = some r ∧ (r = true ↔ c ∧ Q) := by
  by_cases hc : c
  · obtain ⟨r, e, hr⟩ := h
    exact ⟨r, by rw [if_pos (decide_eq_true hc)]; exact e, by simp [hr, hc]⟩
  · exact ⟨false, by rw [if_neg (by simpa using hc)], by simp [hc]⟩
theorem fin2 {b : Bool} {c : Prop} (hb : b = true ↔ c) {m : Option Bool} {Q : Prop} (h : ∃ r, m = some r ∧ (r = true ↔ Q)) : ∃ r, (if b = true then m else some false) = some r ∧ (r = true ↔ c ∧ Q) := by
  by_cases hc : c
  · obtain ⟨r, e, hr⟩ := h
    exact ⟨r, by rw [if_pos (hb.2 hc)]; exact e, by simp [hr, hc]⟩
  · exact ⟨false, by rw [if_neg (fun h => hc (hb.1 h))], by simp [hc]⟩
theorem fin3 {m : Option Bool} {k : Bool → Option Bool} {c Q : Prop} (h : ∃ r, m = some r ∧ (r = true ↔ c)) (hk : ∃ r, k true = some r ∧ (r = true ↔ Q)) (hk0 : k false = some false) : ∃ r, m.bind k = some r ∧ (r = true ↔ c ∧ Q) := by
  obtain ⟨r, e, hr⟩ := h
  rw [e]
  cases r with
  | true =>
    obtain ⟨r, e, h2⟩ := hk
    exact ⟨r, e, by simp [h2, hr.1 rfl]⟩
  | false => exact ⟨false, hk0, by simp only [Bool.false_eq_true, false_iff]; exact fun h => by have := hr.2 h.1; cases this⟩
theorem fin4 {m : Option Bool} {Q : Prop} (h : ∃ r, m = some r ∧ (r = true ↔ Q)) : ∃ r, (m.bind fun y => some y) = some r ∧ (r = true ↔ Q) := by
  obtain ⟨r, e, hr⟩ := h
  exact ⟨r, by rw [e]; rfl, hr⟩
theorem iffP {m : Option Bool} {P Q : Prop} (h : ∃ r, m = some r ∧ (r = true ↔ P)) (hPQ : P ↔ Q) : ∃ r, m = some r ∧ (r = true ↔ Q) := by
  obtain ⟨r, e, hr⟩ := h
  exact ⟨r, e, hr.trans hPQ⟩

theorem sameEnumA (x y : rEnum.den) (h : x.2.length ≤ maxLen) : ∃ r, M.lawdiff_sameEnum big x y = some r ∧ (r = true ↔ x = y) := by
  unfold M.lawdiff_sameEnum
  exact iffP (fin4 (fin1 (fin4 (slices_Equal_string_string_P x.2 y.2 h)))) (by rw [Prod.ext_iff])
theorem sameEnumB (x y : rEnum.den) (h : x.2.length ≤ maxLen) : ∃ r, M.same_Enum big x y = some r ∧ (r = true ↔ x = y) := by
  unfold M.same_Enum
  exact iffP (fin4 (fin1 (fin4 (same_Strings_P x.2 y.2 h)))) (by rw [Prod.ext_iff])
theorem tab_ext (x y : rTable.den) : (x.1 = y.1 ∧ x.2.1 = y.2.1 ∧ x.2.2.1 = y.2.2.1 ∧ x.2.2.2 = y.2.2.2) ↔ x = y := by
  obtain ⟨a, b, c, d⟩ := x
  obtain ⟨a', b', c', d'⟩ := y
  simp only [Prod.mk.injEq]
theorem sameTableA (x y : rTable.den) (h : x.2.2.2.length ≤ maxLen) : ∃ r, M.lawdiff_sameTable big x y = some r ∧ (r = true ↔ x = y) := by
  unfold M.lawdiff_sameTable
  exact iffP (fin4 (fin1 (fin2 eqR_iff (fin2 eqR_iff (fin4 (slices_Equal_guerdon_api_Row_guerdon_api_Row_P x.2.2.2 y.2.2.2 h)))))) (tab_ext x y)
theorem sameTableB (x y : rTable.den) (h : x.2.2.2.length ≤ maxLen) : ∃ r, M.same_Table big x y = some r ∧ (r = true ↔ x = y) := by
  unfold M.same_Table
  exact iffP (fin4 (fin1 (fin2 eqR_iff (fin2 eqR_iff (fin4 (same_Rows_P x.2.2.2 y.2.2.2 h)))))) (tab_ext x y)
/-- A scope without its rules. -/
def iface (x : rScope.den) : ByteArray × Int × List rField.den × List rField.den := (x.1, x.2.1, x.2.2.1, x.2.2.2.1)
theorem iface_ext (x y : rScope.den) : (x.1 = y.1 ∧ (x.2.1 : Int) = y.2.1 ∧ x.2.2.1 = y.2.2.1 ∧ x.2.2.2.1 = y.2.2.2.1) ↔ iface x = iface y := by
  unfold iface
  simp only [Prod.mk.injEq]
theorem sameScopeA (x y : rScope.den) (h : x.2.2.1.length ≤ maxLen ∧ x.2.2.2.1.length ≤ maxLen) : ∃ r, M.lawdiff_sameScope big x y = some r ∧ (r = true ↔ iface x = iface y) := by
  unfold M.lawdiff_sameScope
  exact iffP (fin4 (fin1 (fin1 (fin3 (slices_Equal_guerdon_api_Field_guerdon_api_Field_P x.2.2.1 y.2.2.1 h.1) (by simp only [if_true]; exact fin4 (slices_Equal_guerdon_api_Field_guerdon_api_Field_P x.2.2.2.1 y.2.2.2.1 h.2)) rfl)))) (iface_ext x y)

theorem slices_EqualFunc_Enum_Enum_Enum_Enum_v1_P (a b : List rEnum.den) (hl : a.length ≤ maxLen) (hw : ∀ x ∈ a, x.2.length ≤ maxLen) : ∃ r, M.slices_EqualFunc_guerdon_api_Enum_guerdon_api_Enum_guerdon_api_Enum_guerdon_api_Enum_v1 big a b = some r ∧ (r = true ↔ a = b) := by
  unfold M.slices_EqualFunc_guerdon_api_Enum_guerdon_api_Enum_guerdon_api_Enum_guerdon_api_Enum_v1
  by_cases hab : a.length = b.length
  · rw [eq_len hab, if_neg (by simp)]
    refine cmpE (fun x y => x = y) (all_id hab) hl hab (fun k ha hb hr => ?_) (fun k ha hb hr => ?_) ?_
    · obtain ⟨r, e, h⟩ := sameEnumA a[k] b[k] (hw _ (List.getElem_mem ha))
      simp only [lt_dec ha, if_true, idx_nat ha, idx_nat hb, Option.bind_some, e, h.2 hr, Bool.not_true, Bool.false_eq_true, if_false, ws ha hl]
    · obtain ⟨r, e, h⟩ := sameEnumA a[k] b[k] (hw _ (List.getElem_mem ha))
      have hf : r = false := by cases r with | false => rfl | true => exact absurd (h.1 rfl) hr
      simp only [lt_dec ha, if_true, idx_nat ha, idx_nat hb, Option.bind_some, e, hf, Bool.not_false]
    · simp only [nlt_dec, Bool.false_eq_true, if_false]
  · rw [ne_len hab, if_pos rfl]
    exact no_eq hab fun e => by rw [e]

theorem slices_EqualFunc_Table_Table_Table_Table_v1_P (a b : List rTable.den) (hl : a.length ≤ maxLen) (hw : ∀ x ∈ a, x.2.2.2.length ≤ maxLen) : ∃ r, M.slices_EqualFunc_guerdon_api_Table_guerdon_api_Table_guerdon_api_Table_guerdon_api_Table_v1 big a b = some r ∧ (r = true ↔ a = b) := by
  unfold M.slices_EqualFunc_guerdon_api_Table_guerdon_api_Table_guerdon_api_Table_guerdon_api_Table_v1
  by_cases hab : a.length = b.length
  · rw [eq_len hab, if_neg (by simp)]
    refine cmpE (fun x y => x = y) (all_id hab) hl hab (fun k ha hb hr => ?_) (fun k ha hb hr => ?_) ?_
    · obtain ⟨r, e, h⟩ := sameTableA a[k] b[k] (hw _ (List.getElem_mem ha))
      simp only [lt_dec ha, if_true, idx_nat ha, idx_nat hb, Option.bind_some, e, h.2 hr, Bool.not_true, Bool.false_eq_true, if_false, ws ha hl]
    · obtain ⟨r, e, h⟩ := sameTableA a[k] b[k] (hw _ (List.getElem_mem ha))
      have hf : r = false := by cases r with | false => rfl | true => exact absurd (h.1 rfl) hr
      simp only [lt_dec ha, if_true, idx_nat ha, idx_nat hb, Option.bind_some, e, hf, Bool.not_false]
    · simp only [nlt_dec, Bool.false_eq_true, if_false]
  · rw [ne_len hab, if_pos rfl]
    exact no_eq hab fun e => by rw [e]

theorem slices_EqualFunc_Scope_Scope_Scope_Scope_v1_P (a b : List rScope.den) (hl : a.length ≤ maxLen) (hw : ∀ x ∈ a, x.2.2.1.length ≤ maxLen ∧ x.2.2.2.1.length ≤ maxLen) : ∃ r, M.slices_EqualFunc_guerdon_api_Scope_guerdon_api_Scope_guerdon_api_Scope_guerdon_api_Scope_v1 big a b = some r ∧ (r = true ↔ a.map iface = b.map iface) := by
  unfold M.slices_EqualFunc_guerdon_api_Scope_guerdon_api_Scope_guerdon_api_Scope_guerdon_api_Scope_v1
  by_cases hab : a.length = b.length
  · rw [eq_len hab, if_neg (by simp)]
    refine cmpE (fun x y => iface x = iface y) (all_eq hab) hl hab (fun k ha hb hr => ?_) (fun k ha hb hr => ?_) ?_
    · obtain ⟨r, e, h⟩ := sameScopeA a[k] b[k] (hw _ (List.getElem_mem ha))
      simp only [lt_dec ha, if_true, idx_nat ha, idx_nat hb, Option.bind_some, e, h.2 hr, Bool.not_true, Bool.false_eq_true, if_false, ws ha hl]
    · obtain ⟨r, e, h⟩ := sameScopeA a[k] b[k] (hw _ (List.getElem_mem ha))
      have hf : r = false := by cases r with | false => rfl | true => exact absurd (h.1 rfl) hr
      simp only [lt_dec ha, if_true, idx_nat ha, idx_nat hb, Option.bind_some, e, hf, Bool.not_false]
    · simp only [nlt_dec, Bool.false_eq_true, if_false]
  · rw [ne_len hab, if_pos rfl]
    exact no_eq hab fun e => by simpa using congrArg List.length e

theorem same_Enums_P (a b : List rEnum.den) (hl : a.length ≤ maxLen) (hw : ∀ x ∈ a, x.2.length ≤ maxLen) : ∃ r, M.same_Enums big a b = some r ∧ (r = true ↔ a = b) := by
  unfold M.same_Enums
  by_cases hab : a.length = b.length
  · rw [eq_len hab, if_neg (by simp)]
    refine cmpE (fun x y => x = y) (all_id hab) hl hab (fun k ha hb hr => ?_) (fun k ha hb hr => ?_) ?_
    · obtain ⟨r, e, h⟩ := sameEnumB a[k] b[k] (hw _ (List.getElem_mem ha))
      simp only [lt_dec ha, lt_dec hb, if_true, idx_nat ha, idx_nat hb, Option.bind_some, e, h.2 hr, Bool.not_true, Bool.false_eq_true, if_false, ws ha hl]
    · obtain ⟨r, e, h⟩ := sameEnumB a[k] b[k] (hw _ (List.getElem_mem ha))
      have hf : r = false := by cases r with | false => rfl | true => exact absurd (h.1 rfl) hr
      simp only [lt_dec ha, lt_dec hb, if_true, idx_nat ha, idx_nat hb, Option.bind_some, e, hf, Bool.not_false]
    · simp only [nlt_dec, Bool.false_eq_true, if_false, Option.bind_some]
  · rw [ne_len hab, if_pos rfl]
    exact no_eq hab fun e => by rw [e]

theorem same_Tables_P (a b : List rTable.den) (hl : a.length ≤ maxLen) (hw : ∀ x ∈ a, x.2.2.2.length ≤ maxLen) : ∃ r, M.same_Tables big a b = some r ∧ (r = true ↔ a = b) := by
  unfold M.same_Tables
  by_cases hab : a.length = b.length
  · rw [eq_len hab, if_neg (by simp)]
    refine cmpE (fun x y => x = y) (all_id hab) hl hab (fun k ha hb hr => ?_) (fun k ha hb hr => ?_) ?_
    · obtain ⟨r, e, h⟩ := sameTableB a[k] b[k] (hw _ (List.getElem_mem ha))
      simp only [lt_dec ha, lt_dec hb, if_true, idx_nat ha, idx_nat hb, Option.bind_some, e, h.2 hr, Bool.not_true, Bool.false_eq_true, if_false, ws ha hl]
    · obtain ⟨r, e, h⟩ := sameTableB a[k] b[k] (hw _ (List.getElem_mem ha))
      have hf : r = false := by cases r with | false => rfl | true => exact absurd (h.1 rfl) hr
      simp only [lt_dec ha, lt_dec hb, if_true, idx_nat ha, idx_nat hb, Option.bind_some, e, hf, Bool.not_false]
    · simp only [nlt_dec, Bool.false_eq_true, if_false, Option.bind_some]
  · rw [ne_len hab, if_pos rfl]
    exact no_eq hab fun e => by rw [e]



/-- What SameInterface asks. -/
def SI (a b : rLaw.den) : Prop := a.1 = b.1 ∧ a.2.1 = b.2.1 ∧ a.2.2.map iface = b.2.2.map iface

theorem SI_A (a b : rLaw.den) (hw : WF rLaw a) : ∃ r, M.lawdiff_SameInterface big a b = some r ∧ (r = true ↔ SI a b) := by
  unfold M.lawdiff_SameInterface
  refine fin4 (fin3 (slices_EqualFunc_Enum_Enum_Enum_Enum_v1_P a.1 b.1 hw.1.1 fun x hx => (hw.1.2 x hx).2.1) ?_ rfl)
  simp only [if_true]
  refine fin3 (slices_EqualFunc_Table_Table_Table_Table_v1_P a.2.1 b.2.1 hw.2.1.1 fun x hx => (hw.2.1.2 x hx).2.2.2.1) ?_ rfl
  simp only [if_true]
  exact fin4 (slices_EqualFunc_Scope_Scope_Scope_Scope_v1_P a.2.2 b.2.2 hw.2.2.1 fun x hx => ⟨(hw.2.2.2 x hx).2.2.1.1, (hw.2.2.2 x hx).2.2.2.1.1⟩)

theorem fin5 {c : Prop} [Decidable c] {m : Option Bool} {Q : Prop} (h : ∃ r, m = some r ∧ (r = false ↔ Q)) : ∃ r, (if (!decide c) = true then some true else m) = some r ∧ (r = false ↔ c ∧ Q) := by
  by_cases hc : c
  · obtain ⟨r, e, hr⟩ := h
    exact ⟨r, by rw [if_neg (by simp [hc])]; exact e, by simp [hr, hc]⟩
  · exact ⟨true, by rw [if_pos (by simp [hc])], by simp [hc]⟩
theorem fin6 {m : Option Bool} {k : Bool → Option Bool} {c Q : Prop} (h : ∃ r, m = some r ∧ (r = true ↔ c)) (hk : ∃ r, k true = some r ∧ (r = false ↔ Q)) (hk0 : k false = some true) : ∃ r, m.bind k = some r ∧ (r = false ↔ c ∧ Q) := by
  obtain ⟨r, e, hr⟩ := h
  rw [e]
  cases r with
  | true =>
    obtain ⟨r, e, h2⟩ := hk
    exact ⟨r, e, by simp [h2, hr.1 rfl]⟩
  | false => exact ⟨true, hk0, by simp only [Bool.true_eq_false, false_iff]; exact fun h => by have := hr.2 h.1; cases this⟩

theorem SI_B (a b : rLaw.den) (hw : WF rLaw a) : ∃ r, M.ref51_SameInterface big a b = some r ∧ (r = true ↔ SI a b) := by
  unfold M.ref51_SameInterface
  have first : ∃ r, ((M.same_Enums big a.1 b.1).bind fun y2 => if (!y2) = true then some true else (M.same_Tables big a.2.1 b.2.1).bind fun y3 => if (!y3) = true then some true else some (!decide ((a.2.2.length : Int) = (b.2.2.length : Int)))) = some r ∧ (r = false ↔ a.1 = b.1 ∧ a.2.1 = b.2.1 ∧ a.2.2.length = b.2.2.length) := by
    refine fin6 (same_Enums_P a.1 b.1 hw.1.1 fun x hx => (hw.1.2 x hx).2.1) ?_ rfl
    refine fin6 (same_Tables_P a.2.1 b.2.1 hw.2.1.1 fun x hx => (hw.2.1.2 x hx).2.2.2.1) ?_ rfl
    exact ⟨_, rfl, by rw [Bool.not_eq_false', decide_eq_true_iff]; exact ⟨fun h => Int.ofNat.inj h, fun h => congrArg _ h⟩⟩
  obtain ⟨r, e, hr⟩ := first
  rw [e, Option.bind_some]
  cases r with
  | true =>
    refine ⟨false, rfl, ?_⟩
    simp only [Bool.false_eq_true, false_iff]
    intro h
    have := hr.2 ⟨h.1, h.2.1, by simpa using congrArg List.length h.2.2⟩
    cases this
  | false =>
    obtain ⟨h1, h2, hab⟩ := hr.1 rfl
    rw [if_neg (by simp)]
    have inner : ∀ x y : rScope.den, x ∈ a.2.2 → ∃ r, (if (!decide (x.1 = y.1)) = true then some true else (if (!decide (x.2.1 = y.2.1)) = true then some true else (M.same_Fields big x.2.2.1 y.2.2.1).bind fun y8 => (if (!y8) = true then some true else (M.same_Fields big x.2.2.2.1 y.2.2.2.1).bind fun y9 => some (!y9)))) = some r ∧ (r = false ↔ iface x = iface y) := by
      intro x y hx
      have hwx := hw.2.2.2 x hx
      have : ∃ r, (if (!decide (x.1 = y.1)) = true then some true else (if (!decide (x.2.1 = y.2.1)) = true then some true else (M.same_Fields big x.2.2.1 y.2.2.1).bind fun y8 => (if (!y8) = true then some true else (M.same_Fields big x.2.2.2.1 y.2.2.2.1).bind fun y9 => some (!y9)))) = some r ∧ (r = false ↔ (x.1 = y.1 ∧ (x.2.1 : Int) = y.2.1 ∧ x.2.2.1 = y.2.2.1 ∧ x.2.2.2.1 = y.2.2.2.1)) := by
        refine fin5 (fin5 (fin6 (same_Fields_P x.2.2.1 y.2.2.1 hwx.2.2.1.1) ?_ rfl))
        obtain ⟨r, e, hr⟩ := same_Fields_P x.2.2.2.1 y.2.2.2.1 hwx.2.2.2.1.1
        exact ⟨!r, by simp [e], by simp [← hr]⟩
      obtain ⟨r, e, hr⟩ := this
      exact ⟨r, e, hr.trans (iface_ext x y)⟩
    refine iffP (cmpE (a := a.2.2) (b := b.2.2) (fun x y => iface x = iface y) (all_eq hab) hw.2.2.1 hab (fun k ha hb hr => ?_) (fun k ha hb hr => ?_) ?_) ⟨fun h => ⟨h1, h2, h⟩, fun h => h.2.2⟩
    · obtain ⟨r, e, h⟩ := inner a.2.2[k] b.2.2[k] (List.getElem_mem ha)
      simp only [lt_dec ha, if_true, idx_nat ha, idx_nat hb, Option.bind_some, e, h.2 hr, Bool.false_eq_true, if_false, ws ha hw.2.2.1]
    · obtain ⟨r, e, h⟩ := inner a.2.2[k] b.2.2[k] (List.getElem_mem ha)
      have hf : r = true := by cases r with | true => rfl | false => exact absurd (h.1 rfl) hr
      simp only [lt_dec ha, if_true, idx_nat ha, idx_nat hb, Option.bind_some, e, hf]
    · simp only [nlt_dec, Bool.false_eq_true, if_false]

def StepQ {X : Type} (k : Nat) (Q : X → Prop) : Int ⊕ X → Prop
  | .inl s => s = ((k + 1 : Nat) : Int)
  | .inr x => Q x
def EndQ {S X : Type} (Q : X → Prop) : S ⊕ X → Prop
  | .inl _ => False
  | .inr x => Q x
theorem wpFor {X : Type} {B : Int → Option (Int ⊕ X)} {m : Nat} {Q : X → Prop} (hm : m ≤ maxLen) (h : ∀ k, k < m → Wp (B (k : Int)) (StepQ k Q)) (he : Wp (B (m : Int)) (EndQ Q)) : Wp (Loop B big 0) Q := by
  refine Wp.loop (fun s => ∃ k : Nat, s = k ∧ k ≤ m) (fun s => m - s.toNat) ⟨0, rfl, Nat.zero_le _⟩ (by unfold maxLen at hm; unfold big; omega) fun s hs => ?_
  obtain ⟨k, rfl, hk⟩ := hs
  rcases Nat.lt_or_ge k m with hlt | hge
  · refine (h k hlt).mono fun r hr => ?_
    cases r with
    | inl s =>
      obtain rfl : s = _ := hr
      exact ⟨⟨k + 1, rfl, hlt⟩, by simp only [Int.toNat_natCast]; omega⟩
    | inr x => exact hr
  · obtain rfl : k = m := by omega
    refine he.mono fun r hr => ?_
    cases r with
    | inl s => exact hr.elim
    | inr x => exact hr
def StepQ2 {C X : Type} (k : Nat) (Q : X → Prop) : (C × Int) ⊕ X → Prop
  | .inl s => s.2 = ((k + 1 : Nat) : Int)
  | .inr x => Q x
theorem wpFor2 {C X : Type} {B : C × Int → Option ((C × Int) ⊕ X)} {m : Nat} {c0 : C} {Q : X → Prop} (hm : m ≤ maxLen) (h : ∀ c k, k < m → Wp (B (c, (k : Int))) (StepQ2 k Q)) (he : ∀ c, Wp (B (c, (m : Int))) (EndQ Q)) : Wp (Loop B big (c0, 0)) Q := by
  refine Wp.loop (fun s => ∃ k : Nat, s.2 = k ∧ k ≤ m) (fun s => m - s.2.toNat) ⟨0, rfl, Nat.zero_le _⟩ (by unfold maxLen at hm; unfold big; simp; omega) fun s hs => ?_
  obtain ⟨c, i⟩ := s
  obtain ⟨k, hi, hk⟩ := hs
  dsimp only at hi
  subst hi
  rcases Nat.lt_or_ge k m with hlt | hge
  · refine (h c k hlt).mono fun r hr => ?_
    cases r with
    | inl s =>
      obtain ⟨c', i'⟩ := s
      have hr : i' = _ := hr
      subst hr
      exact ⟨⟨k + 1, rfl, hlt⟩, by simp only [Int.toNat_natCast]; omega⟩
    | inr x => exact hr
  · obtain rfl : k = m := by omega
    refine (he c).mono fun r hr => ?_
    cases r with
    | inl s => exact hr.elim
    | inr x => exact hr

theorem smallScope_wp (x : rScope.den) (hw : WF rScope x) : Wp (M.same_smallScope big x) fun _ => True := by
  unfold M.same_smallScope
  refine Wp.seq (fun _ => True) ?_ fun j _ => ?_
  · repeat' first | exact .some trivial | refine Wp.dec (fun _ => ?_) (fun _ => ?_)
  refine Wp.ite (fun _ => .some trivial) fun _ => ?_
  refine Wp.join (wpFor hw.2.2.1.1 (fun k hk => ?_) ?_)
  · rw [if_pos (lt_dec hk), idx_nat hk, Option.bind_some]
    exact Wp.dec (fun _ => .some trivial) fun _ => .some (ws hk hw.2.2.1.1)
  rw [if_neg (by simp)]
  refine .some ?_
  show Wp _ _
  refine Wp.join (wpFor hw.2.2.2.1.1 (fun k hk => ?_) ?_)
  · rw [if_pos (lt_dec hk), idx_nat hk, Option.bind_some]
    exact Wp.dec (fun _ => .some trivial) fun _ => .some (ws hk hw.2.2.2.1.1)
  rw [if_neg (by simp)]
  refine .some ?_
  show Wp _ _
  refine wpFor hw.2.2.2.2.1 (fun k hk => ?_) ?_
  · rw [if_pos (lt_dec hk), idx_nat hk, Option.bind_some]
    refine Wp.seq (fun _ => True) ?_ fun j _ => Wp.ite (fun _ => .some trivial) fun _ => .some (ws hk hw.2.2.2.2.1)
    repeat' first | exact .some trivial | refine Wp.dec (fun _ => ?_) (fun _ => ?_)
  · rw [if_neg (by simp)]
    exact .some trivial

theorem smallLaw_wp (a : rLaw.den) (hw : WF rLaw a) : Wp (M.same_SmallLaw big a) fun _ => True := by
  unfold M.same_SmallLaw
  refine Wp.seq (fun _ => True) ?_ fun j _ => ?_
  · repeat' first | exact .some trivial | refine Wp.dec (fun _ => ?_) (fun _ => ?_)
  refine Wp.ite (fun _ => .some trivial) fun _ => ?_
  refine Wp.join (wpFor hw.1.1 (fun k hk => ?_) ?_)
  · rw [if_pos (lt_dec hk), idx_nat hk, Option.bind_some]
    have hx := hw.1.2 a.1[k] (List.getElem_mem hk)
    refine Wp.join (Wp.seq (fun _ => True) ?_ fun j _ => ?_)
    · refine Wp.dec (fun _ => .some trivial) fun _ => ?_
      rw [Option.bind_some]
      exact .some trivial
    refine Wp.ite (fun _ => .some trivial) fun _ => ?_
    refine wpFor hx.2.1 (fun i hi => ?_) ?_
    · rw [Option.bind_some, if_pos (lt_dec hi), Option.bind_some, idx_nat hi, Option.bind_some]
      exact Wp.dec (fun _ => .some trivial) fun _ => .some (ws hi hx.2.1)
    · rw [Option.bind_some, if_neg (by simp)]
      exact .some (.some (ws hk hw.1.1))
  rw [if_neg (by simp)]
  refine .some ?_
  show Wp _ _
  refine Wp.join (wpFor2 hw.2.1.1 (fun c k hk => ?_) fun c => ?_)
  · rw [if_pos (lt_dec hk)]
    simp only [idx_nat hk, Option.bind_some]
    refine Wp.seq (fun _ => True) ?_ fun j _ => Wp.ite (fun _ => .some trivial) fun _ => .some (ws hk hw.2.1.1)
    exact Wp.dec (fun _ => .some trivial) fun _ => .some trivial
  rw [if_neg (by simp)]
  refine .some ?_
  show Wp _ _
  refine wpFor2 hw.2.2.1 (fun c k hk => ?_) fun c => ?_
  · rw [if_pos (lt_dec hk)]
    simp only [idx_nat hk, Option.bind_some]
    refine Wp.seq (fun _ => True) ?_ fun j _ => Wp.ite (fun _ => .some trivial) fun _ => .some (ws hk hw.2.2.1)
    refine Wp.dec (fun _ => .some trivial) fun _ => ?_
    exact Wp.seq (fun _ => True) (smallScope_wp _ (hw.2.2.2 _ (List.getElem_mem hk))) fun y _ => .some trivial
  · rw [if_neg (by simp)]
    exact .some trivial

theorem LawdiffInterface_true (a b : rLaw.den) (hwa : WF rLaw a) (hwb : WF rLaw b) : M.law51_LawdiffInterface big a b = some true := by
  apply Wp.eq
  unfold M.law51_LawdiffInterface
  simp only [awake51, Option.bind_some]
  refine Wp.seq (fun _ => True) ?_ fun j _ => ?_
  · refine Wp.seq (fun _ => True) (smallLaw_wp a hwa) fun y _ => Wp.ite (fun _ => .some trivial) fun _ => ?_
    exact Wp.seq (fun _ => True) (smallLaw_wp b hwb) fun y _ => .some trivial
  refine Wp.ite (fun _ => .some rfl) fun _ => ?_
  obtain ⟨r1, e1, h1⟩ := SI_A a b hwa
  obtain ⟨r2, e2, h2⟩ := SI_B a b hwa
  obtain ⟨r3, e3, h3⟩ := SI_A b a hwb
  obtain ⟨r4, e4, h4⟩ := SI_A a a hwa
  have s12 : r1 = r2 := by rw [Bool.eq_iff_iff, h1, h2]
  have s13 : r3 = r1 := by
    rw [Bool.eq_iff_iff, h1, h3]
    exact ⟨fun h => ⟨h.1.symm, h.2.1.symm, h.2.2.symm⟩, fun h => ⟨h.1.symm, h.2.1.symm, h.2.2.symm⟩⟩
  have s4 : r4 = true := h4.2 ⟨rfl, rfl, rfl⟩
  simp only [e1, e2, e3, e4, Option.bind_some, s12, s13, s4, decide_true, if_true]
  exact .some rfl
end L
end Go.Proofs.Ytacochphlicngaa
