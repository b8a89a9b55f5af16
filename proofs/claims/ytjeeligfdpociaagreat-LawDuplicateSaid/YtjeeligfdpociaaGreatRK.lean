/- Chapter 17: laws are equal, law by law; copies; LawClone (plain laws). -/
import Derived.Test.YtjeeligfdpociaaGreatRI
import Derived.Test.YtjeeligfdpociaaGreatModelA
namespace Go.Proofs.YtjeeligfdpociaaGreat
open Go Go.RowKit
set_option maxRecDepth 100000
set_option linter.unusedSimpArgs false
namespace L

theorem awake17k : M.law17_awake big = some true := by kernel_rfl

/-! ## A question that is answered -/
def EqB (m : Option Bool) (p : Prop) : Prop := ∃ b, m = some b ∧ (b = true ↔ p)
theorem EqB.iff {m : Option Bool} {p q : Prop} (h : EqB m p) (e : p ↔ q) : EqB m q := by obtain ⟨b, h1, h2⟩ := h; exact ⟨b, h1, h2.trans e⟩
theorem EqB.dec {c p : Prop} [Decidable c] {m : Option Bool} (h : EqB m p) : EqB (if decide c = true then m else some false) (c ∧ p) := by
  by_cases hc : c
  · rw [if_pos (decide_eq_true hc)]; exact h.iff ⟨fun hp => ⟨hc, hp⟩, fun hp => hp.2⟩
  · rw [if_neg (by simpa using hc)]; exact ⟨false, rfl, ⟨fun e => (by cases e), fun e => absurd e.1 hc⟩⟩
theorem EqB.row {r : Row} {x y : r.den} {p : Prop} {m : Option Bool} (h : EqB m p) : EqB (if (eqR r x y) = true then m else some false) (x = y ∧ p) := by
  by_cases hc : x = y
  · rw [if_pos (eqR_iff.2 hc)]; exact h.iff ⟨fun hp => ⟨hc, hp⟩, fun hp => hp.2⟩
  · rw [if_neg (fun e => hc (eqR_iff.1 e))]; exact ⟨false, rfl, ⟨fun e => (by cases e), fun e => absurd e.1 hc⟩⟩
theorem EqB.ret {m : Option Bool} {p : Prop} (h : EqB m p) : EqB (m.bind fun y => some y) p := by obtain ⟨b, rfl, h⟩ := h; exact ⟨b, rfl, h⟩
theorem EqB.and {m k : Option Bool} {p q : Prop} (h : EqB m p) (g : EqB k q) : EqB (m.bind fun y => if y = true then k else some false) (p ∧ q) := by
  obtain ⟨b, rfl, h⟩ := h
  obtain ⟨c, rfl, g⟩ := g
  cases b with
  | true => exact ⟨c, rfl, g.trans ⟨fun hq => ⟨h.1 rfl, hq⟩, fun hq => hq.2⟩⟩
  | false => exact ⟨false, rfl, ⟨fun e => (by cases e), fun e => by have := h.2 e.1; cases this⟩⟩

/-! ## Lists -/
theorem eqLoop {α : Type} (l m : List α) (S : α → α → Option Bool) (hl : m.length ≤ 1048576) (hS : ∀ x ∈ l, ∀ y ∈ m, EqB (S x y) (x = y)) {body : Int → Option (Int ⊕ Bool)}
    (hb : ∀ k, ∀ h : k < l.length, ∀ h' : k < m.length, body (k : Int) = (S l[k] m[k]).bind fun y => if (!y) = true then some (.inr false) else some (.inl (IntKind.i64.wrap ((k : Int) + 1))))
    (he : l.length = m.length → body (l.length : Int) = some (.inr true)) :
    EqB (if (!decide ((l.length : Int) = (m.length : Int))) = true then some false else Loop body big (0 : Int)) (l = m) := by
  by_cases hlen : l.length = m.length
  · have hl : l.length ≤ 1048576 := by omega
    rw [if_neg (by simp [hlen])]
    have key : Wp (Loop body big (0 : Int)) (fun b => b = true ↔ l = m) := by
      refine Wp.count (fun s => s) l.length (fun k _ => ∀ j, j < k → ∀ h : j < l.length, ∀ h' : j < m.length, l[j] = m[j]) (by omega) rfl (fun j hj => by omega) fun k s hk hs hJ => ?_
      obtain rfl : s = _ := hs
      rcases Nat.lt_or_ge k l.length with hlt | hge
      · rw [hb k hlt (by omega)]
        obtain ⟨b, e, hbi⟩ := hS l[k] (List.getElem_mem _) (m[k]'(by omega)) (List.getElem_mem _)
        rw [e, Option.bind_some]
        cases b with
        | true =>
          rw [if_neg (by simp)]
          refine .some ⟨hlt, wrap_succ (by omega), fun j hj h h' => ?_⟩
          by_cases hjk : j = k
          · subst hjk; exact hbi.1 rfl
          · exact hJ j (by omega) h h'
        | false =>
          rw [if_pos (show (!false) = true from rfl)]
          refine .some ⟨fun e => (by cases e), fun e => ?_⟩
          subst e
          have := hbi.2 rfl
          cases this
      · obtain rfl : k = l.length := by omega
        rw [he hlen]
        exact .some ⟨fun _ => List.ext_getElem hlen fun i h h' => hJ i h h h', fun _ => rfl⟩
    obtain ⟨b, e, h⟩ := key
    exact ⟨b, e, h⟩
  · rw [if_pos (by simp; omega)]
    exact ⟨false, rfl, ⟨fun e => (by cases e), fun e => absurd (by rw [e]) hlen⟩⟩

theorem EqB.self {α : Type} [DecidableEq α] (x y : α) : EqB (some (decide (x = y))) (x = y) := ⟨_, rfl, decide_eq_true_iff⟩
theorem EqB.selfR (r : Row) (x y : r.den) : EqB (some (eqR r x y)) (x = y) := ⟨_, rfl, eqR_iff⟩
theorem prod_iff {α β : Type} {x y : α × β} : (x.1 = y.1 ∧ x.2 = y.2) ↔ x = y := Prod.ext_iff.symm

/-- The program's loop; the reference's. -/
theorem eqLoopP {α : Type} (l m : List α) (S : α → α → Option Bool) (hl : m.length ≤ 1048576) (hS : ∀ x ∈ l, ∀ y ∈ m, EqB (S x y) (x = y)) :
    EqB (if (!decide ((l.length : Int) = (m.length : Int))) = true then some false else Loop (S := Int) (X := Bool) (fun s1 => (if (decide (s1 < (l.length : Int))) = true then
      (idx l s1).bind fun x2 => (idx m s1).bind fun x3 => (S x2 x3).bind fun y4 => (if (!y4) = true then some (Sum.inr false) else some (Sum.inl (IntKind.i64.wrap (s1 + (1 : Int)))))
      else some (Sum.inr true))) big (0 : Int)) (l = m) := by
  refine eqLoop l m S hl hS (fun k h h' => ?_) (fun hlen => ?_)
  · simp only [lt_dec' h, idx_nat h, idx_nat h', Option.bind_some, if_true]
  · simp only [nlt_self, decide_false, Bool.false_eq_true, if_false]
theorem eqLoopR {α : Type} (l m : List α) (S : α → α → Option Bool) (hl : m.length ≤ 1048576) (hS : ∀ x ∈ l, ∀ y ∈ m, EqB (S x y) (x = y)) :
    EqB (if (!decide ((l.length : Int) = (m.length : Int))) = true then some false else Loop (S := Int) (X := Bool) (fun s1 => ((if (decide (s1 < (l.length : Int))) = true then some (decide (s1 < (m.length : Int))) else some false) : Option (Bool)).bind fun j2 => (if j2 = true then
      (idx l s1).bind fun x2 => (idx m s1).bind fun x3 => (S x2 x3).bind fun y4 => (if (!y4) = true then some (Sum.inr false) else some (Sum.inl (IntKind.i64.wrap (s1 + (1 : Int)))))
      else some (Sum.inr true))) big (0 : Int)) (l = m) := by
  refine eqLoop l m S hl hS (fun k h h' => ?_) (fun hlen => ?_)
  · simp only [lt_dec' h, lt_dec' h', idx_nat h, idx_nat h', Option.bind_some, if_true]
  · simp only [nlt_self, decide_false, Bool.false_eq_true, if_false, Option.bind_some]

section
theorem peStr (l m : List ByteArray) (hl : m.length ≤ 1048576) : EqB (M.slices_Equal_string_string big l m) (l = m) := eqLoopP l m (fun x y => some (decide (x = y))) hl fun x _ y _ => EqB.self x y
theorem reStr (l m : List ByteArray) (hl : m.length ≤ 1048576) : EqB (M.same_Strings big l m) (l = m) := eqLoopR l m (fun x y => some (decide (x = y))) hl fun x _ y _ => EqB.self x y
theorem peRow (l m : List rRow.den) (hl : m.length ≤ 1048576) : EqB (M.slices_Equal_guerdon_api_Row_guerdon_api_Row big l m) (l = m) := eqLoopP l m (fun x y => some (eqR rRow x y)) hl fun x _ y _ => EqB.selfR rRow x y
theorem reRow (l m : List rRow.den) (hl : m.length ≤ 1048576) : EqB (M.same_Rows big l m) (l = m) := eqLoopR l m (fun x y => some (eqR rRow x y)) hl fun x _ y _ => EqB.selfR rRow x y
theorem peFld (l m : List rField.den) (hl : m.length ≤ 1048576) : EqB (M.slices_Equal_guerdon_api_Field_guerdon_api_Field big l m) (l = m) := eqLoopP l m (fun x y => some (eqR rField x y)) hl fun x _ y _ => EqB.selfR rField x y
theorem reFld (l m : List rField.den) (hl : m.length ≤ 1048576) : EqB (M.same_Fields big l m) (l = m) := eqLoopR l m (fun x y => some (eqR rField x y)) hl fun x _ y _ => EqB.selfR rField x y
theorem peNod (l m : List rType.den) (hl : m.length ≤ 1048576) : EqB (M.slices_Equal_guerdon_api_Node_guerdon_api_Node big l m) (l = m) := eqLoopP l m (fun x y => some (eqR rType x y)) hl fun x _ y _ => EqB.selfR rType x y
theorem reNod (l m : List rType.den) (hl : m.length ≤ 1048576) : EqB (M.same_Nodes big l m) (l = m) := eqLoopR l m (fun x y => some (eqR rType x y)) hl fun x _ y _ => EqB.selfR rType x y
theorem peEnum (x y : rEnum.den) (h : y.2.length ≤ 1048576) : EqB (M.law_equalEnums big x y) (x = y) := by
  unfold M.law_equalEnums
  exact (EqB.ret (EqB.dec (EqB.ret (peStr _ _ h)))).iff Prod.ext_iff.symm
theorem reEnum (x y : rEnum.den) (h : y.2.length ≤ 1048576) : EqB (M.same_Enum big x y) (x = y) := by
  unfold M.same_Enum
  exact (EqB.ret (EqB.dec (EqB.ret (reStr _ _ h)))).iff Prod.ext_iff.symm
theorem tab_iff {x y : rTable.den} : (x.1 = y.1 ∧ x.2.1 = y.2.1 ∧ x.2.2.1 = y.2.2.1 ∧ x.2.2.2 = y.2.2.2) ↔ x = y := ⟨fun ⟨a, b, c, d⟩ => Prod.ext a (Prod.ext b (Prod.ext c d)), fun e => by subst e; exact ⟨rfl, rfl, rfl, rfl⟩⟩
theorem peTab (x y : rTable.den) (h : y.2.2.2.length ≤ 1048576) : EqB (M.law_equalTables big x y) (x = y) := by
  unfold M.law_equalTables
  exact (EqB.ret (EqB.dec (EqB.row (EqB.row (EqB.ret (peRow _ _ h)))))).iff tab_iff
theorem reTab (x y : rTable.den) (h : y.2.2.2.length ≤ 1048576) : EqB (M.same_Table big x y) (x = y) := by
  unfold M.same_Table
  exact (EqB.ret (EqB.dec (EqB.row (EqB.row (EqB.ret (reRow _ _ h)))))).iff tab_iff
theorem rul_iff {x y : rRule.den} : (x.1 = y.1 ∧ x.2.1 = y.2.1 ∧ x.2.2.1 = y.2.2.1 ∧ x.2.2.2.1 = y.2.2.2.1 ∧ x.2.2.2.2.1 = y.2.2.2.2.1 ∧ x.2.2.2.2.2.2.2 = y.2.2.2.2.2.2.2 ∧ x.2.2.2.2.2.1 = y.2.2.2.2.2.1 ∧ x.2.2.2.2.2.2.1 = y.2.2.2.2.2.2.1) ↔ x = y := by
  exact ⟨fun ⟨a, b, c, d, e, f, g, h⟩ => Prod.ext a (Prod.ext b (Prod.ext c (Prod.ext d (Prod.ext e (Prod.ext g (Prod.ext h f)))))), fun e => by subst e; exact ⟨rfl, rfl, rfl, rfl, rfl, rfl, rfl, rfl⟩⟩
theorem peRul (x y : rRule.den) (h : y.2.2.2.2.2.1.length ≤ 1048576 ∧ y.2.2.2.2.2.2.1.length ≤ 1048576) : EqB (M.law_equalRules big x y) (x = y) := by
  unfold M.law_equalRules
  exact (EqB.ret (EqB.dec (EqB.dec (EqB.dec (EqB.dec (EqB.row (EqB.dec (EqB.and (peNod _ _ h.1) (EqB.ret (peNod _ _ h.2)))))))))).iff rul_iff
theorem reRul (x y : rRule.den) (h : y.2.2.2.2.2.1.length ≤ 1048576 ∧ y.2.2.2.2.2.2.1.length ≤ 1048576) : EqB (M.same_Rule big x y) (x = y) := by
  unfold M.same_Rule
  exact (EqB.ret (EqB.dec (EqB.dec (EqB.dec (EqB.dec (EqB.row (EqB.dec (EqB.and (reNod _ _ h.1) (EqB.ret (reNod _ _ h.2)))))))))).iff rul_iff
theorem scp_iff {x y : rScope.den} : (x.1 = y.1 ∧ x.2.1 = y.2.1 ∧ x.2.2.1 = y.2.2.1 ∧ x.2.2.2.1 = y.2.2.2.1 ∧ x.2.2.2.2 = y.2.2.2.2) ↔ x = y := ⟨fun ⟨a, b, c, d, e⟩ => Prod.ext a (Prod.ext b (Prod.ext c (Prod.ext d e))), fun e => by subst e; exact ⟨rfl, rfl, rfl, rfl, rfl⟩⟩
structure MildS (s : rScope.den) : Prop where
  sz : s.2.2.1.length ≤ 1048576 ∧ s.2.2.2.1.length ≤ 1048576 ∧ s.2.2.2.2.length ≤ 1048576
  ru : ∀ r ∈ s.2.2.2.2, r.2.2.2.2.2.1.length ≤ 1048576 ∧ r.2.2.2.2.2.2.1.length ≤ 1048576
theorem peScp (x y : rScope.den) (h : MildS y) : EqB (M.law_equalScopes big x y) (x = y) := by
  unfold M.law_equalScopes
  exact (EqB.ret (EqB.dec (EqB.dec (EqB.and (peFld _ _ h.sz.1) (EqB.and (peFld _ _ h.sz.2.1) (EqB.ret (eqLoopP _ _ (fun a b => M.law_equalRules big a b) h.sz.2.2 fun a _ b hb => peRul a b (h.ru b hb)))))))).iff scp_iff
theorem reScp (x y : rScope.den) (h : MildS y) : EqB (M.same_Scope big x y) (x = y) := by
  unfold M.same_Scope
  exact (EqB.ret (EqB.dec (EqB.dec (EqB.and (reFld _ _ h.sz.1) (EqB.and (reFld _ _ h.sz.2.1) (EqB.ret (eqLoopR _ _ (fun a b => M.same_Rule big a b) h.sz.2.2 fun a _ b hb => reRul a b (h.ru b hb)))))))).iff scp_iff
theorem Mild.scope {l : Lw} (h : Mild l) : ∀ s ∈ l.2.2, MildS s := fun s hs => ⟨h.sc s hs, h.ru s hs⟩
theorem law_iff {x y : Lw} : (x.1 = y.1 ∧ x.2.1 = y.2.1 ∧ x.2.2 = y.2.2) ↔ x = y := ⟨fun ⟨a, b, c⟩ => Prod.ext a (Prod.ext b c), fun e => by subst e; exact ⟨rfl, rfl, rfl⟩⟩
theorem peLaw (x y : Lw) (h : Mild y) : EqB (M.law_Equal big x y) (x = y) := by
  unfold M.law_Equal
  exact (EqB.ret (EqB.and (eqLoopP _ _ (fun a b => M.law_equalEnums big a b) h.en' fun a _ b hb => peEnum a b (h.en b hb)) (EqB.and (eqLoopP _ _ (fun a b => M.law_equalTables big a b) h.tb' fun a _ b hb => peTab a b (h.tb b hb)) (EqB.ret (eqLoopP _ _ (fun a b => M.law_equalScopes big a b) h.sc' fun a _ b hb => peScp a b (h.scope b hb)))))).iff law_iff
theorem reLaw (x y : Lw) (h : Mild y) : EqB (M.ref17_Equal big x y) (x = y) := by
  unfold M.ref17_Equal M.same_Law
  exact (EqB.ret (EqB.ret (EqB.and (eqLoopR _ _ (fun a b => M.same_Enum big a b) h.en' fun a _ b hb => reEnum a b (h.en b hb)) (EqB.and (eqLoopR _ _ (fun a b => M.same_Table big a b) h.tb' fun a _ b hb => reTab a b (h.tb b hb)) (EqB.ret (eqLoopR _ _ (fun a b => M.same_Scope big a b) h.sc' fun a _ b hb => reScp a b (h.scope b hb))))))).iff law_iff
theorem pe_refl (x : Lw) (h : Mild x) : M.law_Equal big x x = some true := by
  obtain ⟨b, e, hb⟩ := peLaw x x h
  rw [e, hb.2 rfl]
theorem re_refl (x : Lw) (h : Mild x) : M.ref17_Equal big x x = some true := by
  obtain ⟨b, e, hb⟩ := reLaw x x h
  rw [e, hb.2 rfl]
theorem pe_ne (x y : Lw) (h : Mild y) (hn : x ≠ y) : M.law_Equal big x y = some false := by
  obtain ⟨b, e, hb⟩ := peLaw x y h
  cases b with
  | false => exact e
  | true => exact absurd (hb.1 rfl) hn
end

/-! ## Copies -/
theorem clone_gen {α : Type} (l : List α) (h : l.length ≤ 1048576) : (if Nat.beq l.length 0 = true then Both (some ([] : List α)) ((appA ([] : List α) l).bind fun l1 => some l1) else (appA ([] : List α) l).bind fun l2 => some l2) = some l := by
  have e : appA ([] : List α) l = some l := by rw [appA_some (by simp; omega)]; rfl
  rw [e, Option.bind_some]
  cases l with
  | nil => exact both_same
  | cons a l => rfl
theorem cStr (l : List ByteArray) (h : l.length ≤ 1048576) : M.slices_Clone_string_string big l = some l := clone_gen l h
theorem cRow (l : List rRow.den) (h : l.length ≤ 1048576) : M.slices_Clone_guerdon_api_Row_guerdon_api_Row big l = some l := clone_gen l h
theorem cFld (l : List rField.den) (h : l.length ≤ 1048576) : M.slices_Clone_guerdon_api_Field_guerdon_api_Field big l = some l := clone_gen l h
theorem cNod (l : List rType.den) (h : l.length ≤ 1048576) : M.slices_Clone_guerdon_api_Node_guerdon_api_Node big l = some l := clone_gen l h
theorem cEn (l : List rEnum.den) (h' : l.length ≤ 1048576) (h : ∀ e ∈ l, e.2.length ≤ 1048576) : M.law_cloneEnums_v1 big l = some l := by
  unfold M.law_cloneEnums_v1
  refine (mapLoop l (fun x => x) (by omega) (fun k hk o ho => ?_) (fun o => ?_)).trans (by rw [List.map_id'])
  · simp only [lt_dec' hk, idx_nat hk, cStr _ (h _ (List.getElem_mem hk)), Option.bind_some, if_true]
    rw [appA_some (by simp; omega)]
    rfl
  · simp only [nlt_self, decide_false, Bool.false_eq_true, if_false]
theorem cTab (l : List rTable.den) (h' : l.length ≤ 1048576) (h : ∀ e ∈ l, e.2.2.2.length ≤ 1048576) : M.law_cloneTables_v1 big l = some l := by
  unfold M.law_cloneTables_v1
  refine (mapLoop l (fun x => x) (by omega) (fun k hk o ho => ?_) (fun o => ?_)).trans (by rw [List.map_id'])
  · simp only [lt_dec' hk, idx_nat hk, cRow _ (h _ (List.getElem_mem hk)), Option.bind_some, if_true]
    rw [appA_some (by simp; omega)]
    rfl
  · simp only [nlt_self, decide_false, Bool.false_eq_true, if_false]
theorem cLaw (l : Lw) (hm : Mild l) : M.law_Clone_v1 big l = some l := by
  unfold M.law_Clone_v1
  rw [cEn _ hm.en' hm.en, Option.bind_some, cTab _ hm.tb' hm.tb, Option.bind_some]
  have main : ∀ {X : Type} {m : Option X} {y : X}, m = some y → ∀ f : X → Option (List rEnum.den × List rTable.den × List rScope.den), m.bind f = f y := fun h f => by rw [h]; rfl
  refine (main (mapLoopF l.2.2 (fun x => x) (fun c (o : List rScope.den) => (c, l.1, l.2.1, o)) (fun (o : List rScope.den) => (l.1, l.2.1, o)) (by have := hm.sc'; omega) (fun k hk o ho => ?_) (fun o => ?_)) _).trans (by rw [List.map_id'])
  · have hs := hm.scope _ (List.getElem_mem hk)
    simp only [lt_dec' hk, idx_nat hk, cFld _ hs.sz.1, cFld _ hs.sz.2.1, Option.bind_some, if_true]
    have inner := mapLoopF l.2.2[k].2.2.2.2 (fun x => x) (fun c (o : List rRule.den) => (c, l.2.2[k].1, l.2.2[k].2.1, l.2.2[k].2.2.1, l.2.2[k].2.2.2.1, o)) (fun (o : List rRule.den) => (l.2.2[k].1, l.2.2[k].2.1, l.2.2[k].2.2.1, l.2.2[k].2.2.2.1, o))
      (body := fun s10 => (if (decide (s10.1 < (l.2.2[k].2.2.2.2.length : Int))) = true then
(idx l.2.2[k].2.2.2.2 s10.1).bind fun x11 =>
(M.slices_Clone_guerdon_api_Node_guerdon_api_Node big x11.2.2.2.2.2.1).bind fun y12 =>
(M.slices_Clone_guerdon_api_Node_guerdon_api_Node big x11.2.2.2.2.2.2.1).bind fun y13 =>
(appA s10.2.2.2.2.2 ([(x11.1, (x11.2.1, (x11.2.2.1, (x11.2.2.2.1, (x11.2.2.2.2.1, (y12, (y13, x11.2.2.2.2.2.2.2)))))))] : List rRule.den)).bind fun l14 =>
some (Sum.inl (IntKind.i64.wrap (s10.1 + (1 : Int)), s10.2.1, s10.2.2.1, s10.2.2.2.1, s10.2.2.2.2.1, l14))
else
some (Sum.inr (s10.2.1, s10.2.2.1, s10.2.2.2.1, s10.2.2.2.2.1, s10.2.2.2.2.2)))) (by have := hs.sz.2.2; omega) (fun j hj o ho => by
        have hr := hs.ru _ (List.getElem_mem hj)
        simp only [lt_dec' hj, idx_nat hj, cNod _ hr.1, cNod _ hr.2, Option.bind_some, if_true]
        rw [appA_some (by have := hs.sz.2.2; simp; omega)]
        rfl) (fun o => by simp only [nlt_self, decide_false, Bool.false_eq_true, if_false])
    rw [inner, Option.bind_some, List.map_id']
    rw [appA_some (by have := hm.sc'; simp; omega)]
    rfl
  · simp only [nlt_self, decide_false, Bool.false_eq_true, if_false]

/-! ## LawClone -/
theorem idx0 {α : Type} {l : List α} (h : 0 < l.length) : idx l (0 : Int) = some l[0] := idx_nat h
theorem setL_len {α : Type} (l : List α) (i : Int) (y : α) : (setL l i y).length = l.length := by unfold setL; simp
theorem place {n : Nat} (h : 0 < n) (hn : n ≤ 1048576) (a : Int) : ∃ (x : Int) (k : Nat), k < n ∧ remA a (n : Int) = some x ∧ remA (IntKind.i64.wrap (x + (n : Int))) (n : Int) = some (k : Int) := by
  have hn0 : ¬ (n : Int) = 0 := by omega
  have h1 : Int.tmod a n < n := Int.tmod_lt_of_pos a (by omega)
  have h2 : -(n : Int) < Int.tmod a n := by
    have := Int.tmod_lt_of_pos (-a) (b := (n : Int)) (by omega)
    rw [Int.neg_tmod] at this
    omega
  have hw : IntKind.i64.wrap (Int.tmod a n + (n : Int)) = Int.tmod a n + n := by rw [wrap_id] <;> omega
  have e3 : Int.tmod (Int.tmod a n + n) n = (Int.tmod a n + n) % n := Int.tmod_eq_emod_of_nonneg (by omega)
  have h4 := Int.emod_nonneg (Int.tmod a n + n) hn0
  have h5 := Int.emod_lt_of_pos (Int.tmod a n + n) (b := (n : Int)) (by omega)
  refine ⟨Int.tmod a n, ((Int.tmod a n + n) % n).toNat, by omega, by unfold remA; rw [if_neg hn0], ?_⟩
  unfold remA
  rw [if_neg hn0, hw, e3]
  congr 1
  omega
theorem modL_first {l : List rScope.den} {k : Nat} (hk : k < l.length) {f : rScope.den → rScope.den} (hf : ∀ s, (f s).1 = s.1) : ∃ t, (modL l (k : Int) f)[k]? = some t ∧ t.1 = l[k].1 := by
  have h1 : k < (modL l (k : Int) f).length := by rw [modL_length]; exact hk
  refine ⟨_, List.getElem?_eq_getElem h1, ?_⟩
  rw [modL_at h1 hk, if_pos rfl, hf]
theorem LawClone_true (a b : Lw) (at_ : Int) (hw : WF rLaw a) (hw2 : WF rLaw b) (_ : WF rInt at_) (hb : bulk rLaw a + bulk rLaw b + bulk (.int .i64) at_ ≤ 1048576) : M.law17_LawClone big a b at_ = some true := by
  have hm : Mild a := Mild.of (by omega)
  have hm2 : Mild b := Mild.of (by omega)
  apply Wp.eq
  unfold M.law17_LawClone
  refine Wp.seq (fun _ => True) (Wp.bind ((smallL_wp a hw).mono fun r _ => ?_)) fun j _ => ?_
  · cases r with
    | false => exact .some trivial
    | true =>
      rw [if_neg (by simp)]
      exact Wp.bind ((smallL_wp b hw2).mono fun r _ => .some trivial)
  cases j with
  | true => rw [if_pos rfl, awake17k]; exact .some rfl
  | false =>
  rw [if_neg (by simp), cLaw a hm, Option.bind_some, Option.bind_some]
  refine Wp.seq (fun j => j = false) ?_ fun j hj => ?_
  · obtain ⟨b1, e1, h1⟩ := peLaw a b hm2
    obtain ⟨b2, e2, h2⟩ := reLaw a b hm2
    have : b1 = b2 := by
      cases b1 <;> cases b2 <;> simp_all
    subst this
    rw [e1, Option.bind_some, e2, Option.bind_some, if_neg (by simp)]
    show Wp ((M.law_Equal big a a).bind _) _
    rw [pe_refl a hm, Option.bind_some, if_neg (by simp)]
    show Wp ((M.ref17_Equal big a a).bind _) _
    rw [re_refl a hm, Option.bind_some, if_neg (by simp)]
    exact .some rfl
  subst hj
  rw [if_neg (by simp)]
  refine Wp.dec (fun _ => by rw [awake17k]; exact .some rfl) fun hl => ?_
  have hn : 0 < a.2.2.length := by
    dsimp only [rInt, Row.den] at *
    omega
  obtain ⟨x, k, hk, r1, r2⟩ := place hn hm.sc' at_
  rw [r1, Option.bind_some, r2, Option.bind_some, idx_nat hk, Option.bind_some, Option.bind_some]
  have hsz : a.2.2[k].1.size ≤ 1048576 := by
    have g1 := bulk_mem (e := rScope) (List.getElem_mem hk)
    have g2 : bulk rLaw a = bulk (.slice rEnum) a.1 + (bulk (.slice rTable) a.2.1 + bulk (.slice rScope) a.2.2) := rfl
    have g3 : bulk rScope a.2.2[k] = bulk .str a.2.2[k].1 + (bulk rInt a.2.2[k].2.1 + (bulk (.slice rField) a.2.2[k].2.2.1 + (bulk (.slice rField) a.2.2[k].2.2.2.1 + bulk (.slice rRule) a.2.2[k].2.2.2.2))) := rfl
    have g4 : a.2.2[k].1.size ≤ bulk .str a.2.2[k].1 := by show _ ≤ a.2.2[k].1.size + 1; omega
    omega
  have hcat : catA a.2.2[k].1 (⟨#[120]⟩ : ByteArray) = some (a.2.2[k].1 ++ ⟨#[120]⟩) := if_pos (by show _ + 1 ≤ _; omega)
  have hnm : a.2.2[k].1 ++ (⟨#[120]⟩ : ByteArray) ≠ a.2.2[k].1 := fun e => by
    have := congrArg ByteArray.size e
    rw [ByteArray.size_append] at this
    have h1 : (⟨#[120]⟩ : ByteArray).size = 1 := rfl
    omega
  rw [hcat, Option.bind_some, Option.bind_some]
  generalize a.2.2[k].1 ++ (⟨#[120]⟩ : ByteArray) = nm at hnm ⊢
  have hk' : k < (setL a.2.2 (k : Int) ((nm, a.2.2[k].2) : rScope.den)).length := by rw [setL_len]; exact hk
  have hat : (setL a.2.2 (k : Int) ((nm, a.2.2[k].2) : rScope.den))[k] = (nm, a.2.2[k].2) := by unfold setL; simp
  generalize setL a.2.2 (k : Int) ((nm, a.2.2[k].2) : rScope.den) = sc at hk' hat ⊢
  refine Wp.seq (fun j => ∃ t, j[k]? = some t ∧ t.1 = nm) ?_ fun j hj => ?_
  · have fin : ∀ f : rScope.den → rScope.den, (∀ s, (f s).1 = s.1) → ∃ t, (modL sc (k : Int) f)[k]? = some t ∧ t.1 = nm := fun f hf => by
      obtain ⟨t, h1, h2⟩ := modL_first hk' hf
      exact ⟨t, h1, h2.trans (by rw [hat])⟩
    rw [idx_nat hk', Option.bind_some, hat]
    refine Wp.dec (fun h0 => ?_) fun _ => .some (fin _ fun _ => rfl)
    have hr : 0 < a.2.2[k].2.2.2.2.length := by
      dsimp only [rInt, Row.den] at *
      omega
    refine Wp.dec (fun _ => ?_) fun h => absurd (by first | rfl | trivial) h
    rw [Option.bind_some, idx0 hr]
    simp only [Option.bind_some]
    refine Wp.dec (fun _ => ?_) fun h => absurd (by first | rfl | trivial) h
    generalize hR : setL a.2.2[k].2.2.2.2 (0 : Int) _ = R
    have hR0 : 0 < R.length := by rw [← hR, setL_len]; exact hr
    rw [idx0 hR0]
    simp only [Option.bind_some]
    refine Wp.dec (fun hv => ?_) fun _ => .some (fin _ fun _ => rfl)
    have hv0 : 0 < R[0].2.2.2.2.2.2.1.length := by
      dsimp only [rInt, Row.den] at *
      omega
    refine Wp.dec (fun _ => ?_) fun h => absurd (by first | rfl | trivial) h
    refine Wp.dec (fun _ => ?_) fun h => absurd (by first | rfl | trivial) h
    rw [idx0 hv0]
    simp only [Option.bind_some]
    exact .some (fin _ fun _ => rfl)
  · obtain ⟨t, ht, hnt⟩ := hj
    have hne : ((a.1, (a.2.1, j)) : Lw) ≠ a := fun e => by
      have e2 : j = a.2.2 := congrArg (fun l : Lw => l.2.2) e
      rw [e2, List.getElem?_eq_getElem hk] at ht
      exact hnm (by rw [← hnt, ← Option.some.inj ht])
    show Wp (((M.law_Equal big ((a.1, (a.2.1, j)) : Lw) a).bind _).bind _) _
    rw [pe_ne _ a hm hne, Option.bind_some, if_pos (show (!false) = true from rfl)]
    show Wp (((M.law_Equal big a a).bind _).bind _) _
    rw [pe_refl a hm, Option.bind_some, if_pos rfl]
    show Wp (((M.ref17_Equal big a a).bind _).bind _) _
    rw [re_refl a hm, Option.bind_some, if_pos rfl, awake17k]
    exact .some rfl
end L
end Go.Proofs.YtjeeligfdpociaaGreat
