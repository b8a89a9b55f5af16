/- Chapter 46: the outbox (plain laws). -/
import Derived.Test.YtmnbfioadkhahaaModel
import Derived.Test.YtmnbfioadkhahaaPlain
import Derived.Test.YtmnbfioadkhahaaOpen
namespace Go.Proofs.Ytmnbfioadkhahaa
open Go Go.RowKit
namespace L

abbrev Nt : Type := rNotice.den

theorem lookA_put (l : List (Int × Bool)) (k x : Int) (v : Bool) : lookA rInt (putA rInt l k v) x = if k = x then some v else lookA rInt l x := by
  induction l with
  | nil => simp [putA, lookA, keyEq]
  | cons p l ih =>
    obtain ⟨a, b⟩ := p
    unfold putA
    by_cases h : a = k
    · subst h
      rw [if_pos (by simp [keyEq])]
      by_cases h' : a = x <;> simp [lookA, keyEq, h']
    · rw [if_neg (by simp [keyEq, h])]
      show lookA rInt ((a, b) :: putA rInt l k v) x = _
      show (if keyEq rInt a x = true then some b else lookA rInt (putA rInt l k v) x) = if k = x then some v else if keyEq rInt a x = true then some b else lookA rInt l x
      by_cases h' : a = x
      · subst h'
        rw [if_pos (by simp [keyEq]), if_neg (Ne.symm h), if_pos (by simp [keyEq])]
      · have hq : ¬ keyEq rInt a x = true := by simp [keyEq, h']
        rw [if_neg hq, if_neg hq, ih]

theorem mem_loop {α : Type} (f : α → Int) (l : List α) (x : Int) (hl : l.length ≤ 100000) {N : Nat} (hN : 100001 ≤ N) : Loop (S := Int) (X := Bool) (fun s1 =>
(if (decide (s1 < (l.length : Int))) = true then
(idx l s1).bind fun x2 =>
(if (decide (f x2 = x)) = true then
some (Sum.inr true)
else
some (Sum.inl (IntKind.i64.wrap (s1 + (1 : Int)))))
else
some (Sum.inr false))) N (0 : Int) = some (l.any fun y => decide (f y = x)) := by
  obtain ⟨b, hb, hq⟩ := Loop_rule (I := fun s : Int => ∃ k : Nat, s = k ∧ k ≤ l.length ∧ (l.take k).any (fun y => decide (f y = x)) = false) (μ := fun s => (l.length - s).toNat) (Q := fun b => b = l.any fun y => decide (f y = x)) (body := fun s1 : Int =>
(if (decide (s1 < (l.length : Int))) = true then
(idx l s1).bind fun x2 =>
(if (decide (f x2 = x)) = true then
some (Sum.inr true)
else
some (Sum.inl (IntKind.i64.wrap (s1 + (1 : Int)))))
else
some (Sum.inr false))) (by
    rintro s ⟨k, rfl, hk, hn⟩
    by_cases h : k < l.length
    · rw [if_pos (by simpa using h), idx_nat h]
      simp only [Option.bind_some]
      by_cases he : f l[k] = x
      · rw [if_pos (by simpa using he)]
        refine .inr ⟨true, rfl, ?_⟩
        symm
        rw [List.any_eq_true]
        exact ⟨l[k], List.getElem_mem h, by simpa using he⟩
      · rw [if_neg (by simpa using he), wrap_id (by omega) (by omega)]
        refine .inl ⟨_, rfl, ⟨k + 1, by omega, h, ?_⟩, by omega⟩
        rw [List.take_succ_eq_append_getElem h, List.any_append, hn]
        simpa using he
    · rw [if_neg (by simpa using h)]
      refine .inr ⟨false, rfl, ?_⟩
      rw [List.take_of_length_le (by omega)] at hn
      exact hn.symm) N 0 ⟨0, rfl, by omega, by simp⟩ (by omega)
  rw [hb, hq]

theorem any_mem (l : List Int) (x : Int) : (l.any fun y => decide (y = x)) = decide (x ∈ l) := by
  rw [Bool.eq_iff_iff, List.any_eq_true]
  simp

theorem Contains_eq {N : Nat} {l : List Int} (x : Int) (hl : l.length ≤ 100000) (hN : 100001 ≤ N) : M.outbox_Contains N l x = some (decide (x ∈ l)) := by
  unfold M.outbox_Contains
  rw [mem_loop (fun y : Int => y) l x hl hN, any_mem]
theorem Contains_ref {N : Nat} {l : List Int} (x : Int) (hl : l.length ≤ 100000) (hN : 100001 ≤ N) : M.ref46_Contains N l x = some (decide (x ∈ l)) := Contains_eq x hl hN
theorem has_eq {N : Nat} {l : List Nt} (x : Int) (hl : l.length ≤ 100000) (hN : 100001 ≤ N) : M.law46_has N l x = some (l.any fun y => decide (y.1 = x)) := by
  unfold M.law46_has
  exact mem_loop (fun y : Nt => y.1) l x hl hN

theorem Ints_refl {N : Nat} (l : List Int) (hl : l.length ≤ 100000) (hN : 100001 ≤ N) : M.same_Ints N l l = some true := by
  unfold M.same_Ints
  rw [if_neg (by simp)]
  refine Loop_eq (fun k : Nat => (k : Int)) l.length _ rfl ?_ ?_ (by omega)
  · intro k hk
    have hw : IntKind.i64.wrap ((k : Int) + 1) = ((k + 1 : Nat) : Int) := by rw [wrap_id] <;> omega
    have h1 : (k : Int) < (l.length : Int) := by omega
    simp only [h1, decide_true, if_true, Option.bind_some, idx_nat hk, hw, Bool.not_true, Bool.false_eq_true, if_false]
  · simp
theorem Notices_refl {N : Nat} (l : List Nt) (hl : l.length ≤ 100000) (hN : 100001 ≤ N) : M.same_Notices N l l = some true := by
  unfold M.same_Notices
  rw [if_neg (by simp)]
  refine Loop_eq (fun k : Nat => (k : Int)) l.length _ rfl ?_ ?_ (by omega)
  · intro k hk
    have hw : IntKind.i64.wrap ((k : Int) + 1) = ((k + 1 : Nat) : Int) := by rw [wrap_id] <;> omega
    have h1 : (k : Int) < (l.length : Int) := by omega
    have h2 : ∀ x : Nt, eqR rNotice x x = true := fun x => by simp [eqR]
    simp only [h1, decide_true, if_true, Option.bind_some, idx_nat hk, hw, h2, Bool.not_true, Bool.false_eq_true, if_false]
  · simp

/-- An identifier is added unless it is there. -/
def add (ids : List Int) (x : Int) : List Int := if x ∈ ids then ids else ids ++ [x]
def Hd (held : List (Int × Bool)) (ids : List Int) : Prop := ∀ x, (lookA rInt held x).getD false = decide (x ∈ ids)

theorem big_le : 100001 ≤ big := by decide
theorem app_nil {α : Type} {l : List α} (h : l.length ≤ 100000) : appA [] l = some l := by
  rw [appA_some (by simp; omega)]; rfl

theorem Deliver_eq {N : Nat} {l : List Int} (n : Nt) (hl : l.length ≤ 100000) (hN : 100001 ≤ N) : M.outbox_Deliver N l n = some (!decide (n.1 ∈ l), add l n.1) := by
  unfold M.outbox_Deliver add
  rw [app_nil hl, Option.bind_some, Contains_eq _ hl hN, Option.bind_some]
  by_cases h : n.1 ∈ l
  · simp [h]
  · rw [if_neg (by simpa using h), appA_some (by simp; omega)]
    simp [h]
theorem Deliver_ref {N : Nat} {l : List Int} (n : Nt) (hl : l.length ≤ 100000) (hN : 100001 ≤ N) : M.ref46_Deliver N l n = some (!decide (n.1 ∈ l), add l n.1) := Deliver_eq n hl hN

theorem awake : M.law46_awake big = some true := by kernel_rfl

theorem OutboxDeliver_true (box : List Int) (n : Nt) (_ : WF (.slice rInt) box) (_ : WF rNotice n) : M.law46_OutboxDeliver big box n = some true := by
  unfold M.law46_OutboxDeliver
  rw [awake]
  by_cases h : (1000 : Int) < (box.length : Int)
  · rw [if_pos (by simpa using h)]; rfl
  · have hl : (add box n.1).length ≤ 100000 := by unfold add; split <;> (try simp) <;> omega
    rw [if_neg (by simpa using h), Deliver_eq n (by omega) big_le, Deliver_ref n (by omega) big_le]
    simp only [Option.bind_some]
    rw [Ints_refl _ hl big_le, Contains_eq _ (by omega) big_le, Contains_ref _ (by omega) big_le]
    simp
end L
end Go.Proofs.Ytmnbfioadkhahaa
