/- Chapter 51: the index, counterparts, equal rules; LawdiffRules (plain law). -/
import Derived.Test.YtacochphlicngaaP51
namespace Go.Proofs.Ytacochphlicngaa
open Go Go.RowKit
set_option maxRecDepth 100000
namespace L
abbrev Sc := rScope.den
abbrev Ru := rRule.den
abbrev Ch := rChange.den
abbrev Ix := List (ByteArray × rlawdiff_scopeIndex.den)

def firstR (l : List Ru) (nm : ByteArray) : Option Nat := l.findIdx? fun r => decide ((r.1 : ByteArray) = nm)
def firstS (l : List Sc) (nm : ByteArray) : Option Nat := l.findIdx? fun s => decide ((s.1 : ByteArray) = nm)
def orNeg : Option Nat → Int
  | some i => (i : Int)
  | none => -1

/-- A loop that looks for the first place. -/
theorem first {α : Type} {B : Int → Option (Int ⊕ Int)} {l : List α} (p : α → Bool) (hl : l.length ≤ maxLen) (h1 : ∀ k (h : k < l.length), p l[k] = true → B (k : Int) = some (.inr (k : Int))) (h2 : ∀ k (h : k < l.length), p l[k] = false → B (k : Int) = some (.inl ((k + 1 : Nat) : Int)))
    (he : B (l.length : Int) = some (.inr (-1))) : Loop B big 0 = some (orNeg (l.findIdx? p)) := by
  have hb : l.length < big := by unfold maxLen at hl; unfold big; omega
  cases hf : l.findIdx? p with
  | none =>
    have hn := List.findIdx?_eq_none_iff.1 hf
    exact Loop_eq (fun i => (i : Int)) l.length (-1) rfl (fun i hi => h2 i hi (by simpa using hn _ (List.getElem_mem hi))) he hb
  | some i =>
    obtain ⟨hi, hp, hlt⟩ := List.findIdx?_eq_some_iff_getElem.1 hf
    exact Loop_eq (fun i => (i : Int)) i (i : Int) rfl (fun j hj => h2 j (by omega) (by simpa using hlt j hj)) (h1 i hi hp) (by omega)

theorem scopeOf_eq (b : rLaw.den) (nm : ByteArray) (hl : b.2.2.length ≤ maxLen) : M.ref51_scopeOf big b nm = some (orNeg (firstS b.2.2 nm)) := by
  unfold M.ref51_scopeOf firstS
  refine first (l := b.2.2) _ hl (fun k hk hp => ?_) (fun k hk hp => ?_) ?_
  · rw [if_pos (lt_dec hk), idx_nat hk, Option.bind_some, if_pos hp]
  · rw [if_pos (lt_dec hk), idx_nat hk, Option.bind_some, if_neg (by simpa using hp), ws hk hl]
  · rw [if_neg (by simp)]
theorem ruleOf_eq (s : Sc) (nm : ByteArray) (hl : s.2.2.2.2.length ≤ maxLen) : M.ref51_ruleOf big s nm = some (orNeg (firstR s.2.2.2.2 nm)) := by
  unfold M.ref51_ruleOf firstR
  refine first (l := s.2.2.2.2) _ hl (fun k hk hp => ?_) (fun k hk hp => ?_) ?_
  · rw [if_pos (lt_dec hk), idx_nat hk, Option.bind_some, if_pos hp]
  · rw [if_pos (lt_dec hk), idx_nat hk, Option.bind_some, if_neg (by simpa using hp), ws hk hl]
  · rw [if_neg (by simp)]

/-- The counterpart of a rule. -/
def cp (l : List Sc) (sn rn : ByteArray) : Option (Sc × Nat) :=
  match firstS l sn with
  | none => none
  | some i => match l[i]? with
    | none => none
    | some s => (firstR s.2.2.2.2 rn).map fun n => (s, n)
def cpOut : Option (Sc × Nat) → ByteArray × Int × List rField.den × List rField.den × List rRule.den × Int × Bool
  | none => (ByteArray.empty, (0 : Int), [], [], [], (0 : Int), false)
  | some (s, n) => (s.1, s.2.1, s.2.2.1, s.2.2.2.1, s.2.2.2.2, (n : Int), true)

theorem Counterpart_eq (b : rLaw.den) (hw : WF rLaw b) (sn rn : ByteArray) : M.ref51_Counterpart big b sn rn = some (cpOut (cp b.2.2 sn rn)) := by
  unfold M.ref51_Counterpart cp
  rw [scopeOf_eq b sn hw.2.2.1, Option.bind_some]
  cases hf : firstS b.2.2 sn with
  | none => rfl
  | some i =>
    obtain ⟨hi, _⟩ := List.findIdx?_eq_some_iff_getElem.1 hf
    rw [show orNeg (some i) = ((i : Nat) : Int) from rfl, if_neg (by simp)]
    simp only [idx_nat hi, Option.bind_some, List.getElem?_eq_getElem hi]
    rw [ruleOf_eq _ rn (hw.2.2.2 _ (List.getElem_mem hi)).2.2.2.2.1, Option.bind_some]
    cases hr : firstR b.2.2[i].2.2.2.2 rn with
    | none => rfl
    | some n =>
      rw [show orNeg (some n) = ((n : Nat) : Int) from rfl, if_neg (by simp)]
      rfl

/-! ## The index -/
theorem strPut {α : Type} (l : List (ByteArray × α)) (k x : ByteArray) (v : α) : lookA .str (putA .str l k v) x = if k = x then some v else lookA .str l x := by
  induction l with
  | nil => simp [putA, lookA, keyEq]
  | cons p l ih =>
    obtain ⟨a, b⟩ := p
    unfold putA
    by_cases h : a = k
    · subst h
      have : keyEq .str a a = true := by simp [keyEq]
      simp only [this, if_true]
      by_cases h' : a = x <;> simp [lookA, keyEq, h']
    · have : keyEq .str a k = false := by simp [keyEq, h]
      simp only [this, Bool.false_eq_true, if_false]
      show (if keyEq .str a x = true then some b else lookA .str (putA .str l k v) x) = if k = x then some v else if keyEq .str a x = true then some b else lookA .str l x
      rw [ih]
      by_cases h1 : k = x
      · subst h1
        simp [this]
      · simp [h1]

def RIx (m : List (ByteArray × Int)) (l : List Ru) : Prop := ∀ rn, lookA .str m rn = (firstR l rn).map fun n => (n : Int)
def SIx (x : Ix) (l : List Sc) : Prop := ∀ nm, match firstS l nm with
  | none => lookA .str x nm = none
  | some i => ∃ s m, l[i]? = some s ∧ lookA .str x nm = some (s, m) ∧ RIx m s.2.2.2.2

theorem firstR_snoc (l : List Ru) (r : Ru) (nm : ByteArray) : firstR (l ++ [r]) nm = (firstR l nm).or (if (r.1 : ByteArray) = nm then some l.length else none) := by
  unfold firstR
  rw [List.findIdx?_append]
  by_cases h : (r.1 : ByteArray) = nm <;> simp [List.findIdx?_cons, h]
theorem firstS_snoc (l : List Sc) (s : Sc) (nm : ByteArray) : firstS (l ++ [s]) nm = (firstS l nm).or (if (s.1 : ByteArray) = nm then some l.length else none) := by
  unfold firstS
  rw [List.findIdx?_append]
  by_cases h : (s.1 : ByteArray) = nm <;> simp [List.findIdx?_cons, h]

theorem RIx.snoc {m : List (ByteArray × Int)} {l : List Ru} {r : Ru} (h : RIx m l) : RIx (if (lookA .str m r.1).isSome = true then m else putA .str m r.1 (l.length : Int)) (l ++ [r]) := by
  intro rn
  rw [firstR_snoc]
  have h1 := h r.1
  by_cases hs : (lookA .str m r.1).isSome = true
  · rw [if_pos hs, h rn]
    cases hf : firstR l rn with
    | some n => rfl
    | none =>
      by_cases hn : (r.1 : ByteArray) = rn
      · rw [hn, h rn, hf] at hs; cases hs
      · simp [hn]
  · rw [if_neg hs, strPut, h rn]
    by_cases hn : (r.1 : ByteArray) = rn
    · have : firstR l rn = none := by
        rw [← hn]
        cases hf : firstR l r.1 with
        | none => rfl
        | some n => rw [h1, hf] at hs; exact absurd rfl hs
      simp [hn, this]
    · simp [hn]

theorem SIx.snoc {x : Ix} {l : List Sc} {s : Sc} {m : List (ByteArray × Int)} (h : SIx x l) (hm : RIx m s.2.2.2.2) : SIx (if (lookA .str x s.1).isSome = true then x else putA .str x s.1 (s, m)) (l ++ [s]) := by
  intro nm
  rw [firstS_snoc]
  have h1 := h nm
  cases hf : firstS l nm with
  | some i =>
    rw [hf] at h1
    obtain ⟨s', m', g1, g2, g3⟩ := h1
    have hi : i < l.length := (List.getElem?_eq_some_iff.1 g1).1
    refine ⟨s', m', by rw [List.getElem?_append_left hi]; exact g1, ?_, g3⟩
    by_cases hs : (lookA .str x s.1).isSome = true
    · rw [if_pos hs]; exact g2
    · rw [if_neg hs, strPut, if_neg fun e => hs (by rw [e, g2]; rfl)]
      exact g2
  | none =>
    rw [hf] at h1
    have h1 : lookA .str x nm = none := h1
    by_cases hn : (s.1 : ByteArray) = nm
    · have hs : ¬ (lookA .str x s.1).isSome = true := by rw [hn, h1]; simp
      rw [if_pos hn, if_neg hs]
      refine ⟨s, m, by simp, by rw [strPut, if_pos hn], hm⟩
    · rw [if_neg hn]
      show lookA .str _ nm = none
      by_cases hs : (lookA .str x s.1).isSome = true
      · rw [if_pos hs]; exact h1
      · rw [if_neg hs, strPut, if_neg hn]; exact h1

def StepJ {C X : Type} (k : Nat) (J : Nat → C → Prop) (Q : X → Prop) : (Int × C) ⊕ X → Prop
  | .inl s => s.1 = ((k + 1 : Nat) : Int) ∧ J (k + 1) s.2
  | .inr x => Q x
theorem wpAcc {C X : Type} {B : Int × C → Option ((Int × C) ⊕ X)} {m : Nat} {c0 : C} (J : Nat → C → Prop) {Q : X → Prop} (hm : m ≤ maxLen) (h0 : J 0 c0) (h : ∀ k c, k < m → J k c → Wp (B ((k : Int), c)) (StepJ k J Q)) (he : ∀ c, J m c → Wp (B ((m : Int), c)) (EndQ Q)) : Wp (Loop B big (0, c0)) Q := by
  refine Wp.loop (fun s => ∃ k : Nat, s.1 = k ∧ k ≤ m ∧ J k s.2) (fun s => m - s.1.toNat) ⟨0, rfl, Nat.zero_le _, h0⟩ (by unfold maxLen at hm; unfold big; simp; omega) fun s hs => ?_
  obtain ⟨i, c⟩ := s
  obtain ⟨k, hi, hk, hJ⟩ := hs
  dsimp only at hi hJ
  subst hi
  rcases Nat.lt_or_ge k m with hlt | hge
  · refine (h k c hlt hJ).mono fun r hr => ?_
    cases r with
    | inl s =>
      obtain ⟨i', c'⟩ := s
      obtain ⟨hr1, hr2⟩ := hr
      dsimp only at hr1
      subst hr1
      exact ⟨⟨k + 1, rfl, hlt, hr2⟩, by simp only [Int.toNat_natCast]; omega⟩
    | inr x => exact hr
  · obtain rfl : k = m := by omega
    refine (he c hJ).mono fun r hr => ?_
    cases r with
    | inl s => exact hr.elim
    | inr x => exact hr
def StepJ3 {D C X : Type} (d0 : D) (k : Nat) (J : Nat → C → Prop) (Q : X → Prop) : (D × Int × C) ⊕ X → Prop
  | .inl s => s.1 = d0 ∧ s.2.1 = ((k + 1 : Nat) : Int) ∧ J (k + 1) s.2.2
  | .inr x => Q x
theorem wpAcc3 {D C X : Type} {B : D × Int × C → Option ((D × Int × C) ⊕ X)} {m : Nat} {d0 : D} {c0 : C} (J : Nat → C → Prop) {Q : X → Prop} (hm : m ≤ maxLen) (h0 : J 0 c0) (h : ∀ k c, k < m → J k c → Wp (B (d0, (k : Int), c)) (StepJ3 d0 k J Q)) (he : ∀ c, J m c → Wp (B (d0, (m : Int), c)) (EndQ Q)) : Wp (Loop B big (d0, 0, c0)) Q := by
  refine Wp.loop (fun s => s.1 = d0 ∧ ∃ k : Nat, s.2.1 = k ∧ k ≤ m ∧ J k s.2.2) (fun s => m - s.2.1.toNat) ⟨rfl, 0, rfl, Nat.zero_le _, h0⟩ (by unfold maxLen at hm; unfold big; simp; omega) fun s hs => ?_
  obtain ⟨d, i, c⟩ := s
  obtain ⟨hd, k, hi, hk, hJ⟩ := hs
  dsimp only at hi hJ hd
  subst hi
  subst hd
  rcases Nat.lt_or_ge k m with hlt | hge
  · refine (h k c hlt hJ).mono fun r hr => ?_
    cases r with
    | inl s =>
      obtain ⟨d', i', c'⟩ := s
      obtain ⟨hr0, hr1, hr2⟩ := hr
      dsimp only at hr1 hr0
      subst hr1
      exact ⟨⟨hr0, k + 1, rfl, hlt, hr2⟩, by simp only [Int.toNat_natCast]; omega⟩
    | inr x => exact hr
  · obtain rfl : k = m := by omega
    refine (he c hJ).mono fun r hr => ?_
    cases r with
    | inl s => exact hr.elim
    | inr x => exact hr

theorem newIndex_wp (b : rLaw.den) (hw : WF rLaw b) : Wp (M.lawdiff_newIndex big b) fun x => SIx x b.2.2 := by
  unfold M.lawdiff_newIndex
  refine wpAcc (fun k x => SIx x (b.2.2.take k)) hw.2.2.1 (fun nm => rfl) (fun k x hk hJ => ?_) fun x hJ => ?_
  · rw [if_pos (lt_dec hk)]
    simp only [idx_nat hk, Option.bind_some]
    have hs := hw.2.2.2 _ (List.getElem_mem hk)
    have inner : Wp (Loop (S := Int × List (ByteArray × Int)) (X := List (ByteArray × Int)) (fun s6 =>
        (if (decide (s6.1 < (b.2.2[k].2.2.2.2.length : Int))) = true then
          ((idx b.2.2[k].2.2.2.2 s6.1).bind fun x8 =>
          (if (!((lookA .str s6.2 x8.1).isSome)) = true then
          some (putA .str s6.2 x8.1 s6.1)
          else
          some s6.2) : Option (List (ByteArray × Int))).bind fun j7 =>
          some (Sum.inl (IntKind.i64.wrap (s6.1 + (1 : Int)), j7))
        else
          some (Sum.inr s6.2))) big ((0 : Int), ([] : List (ByteArray × Int)))) fun m => RIx m b.2.2[k].2.2.2.2 := by
      refine wpAcc (fun i m => RIx m (b.2.2[k].2.2.2.2.take i)) hs.2.2.2.2.1 (fun rn => rfl) (fun i m hi hJ => ?_) fun m hJ => ?_
      · rw [if_pos (lt_dec hi)]
        simp only [idx_nat hi, Option.bind_some]
        have := hJ.snoc (r := b.2.2[k].2.2.2.2[i])
        rw [List.take_append_getElem hi, List.length_take_of_le (Nat.le_of_lt hi)] at this
        by_cases hl : (lookA .str m b.2.2[k].2.2.2.2[i].1).isSome = true
        · rw [if_pos hl] at this
          simp only [hl, Bool.not_true, Bool.false_eq_true, if_false, Option.bind_some]
          exact .some ⟨ws hi hs.2.2.2.2.1, this⟩
        · rw [if_neg hl] at this
          simp only [hl, Bool.not_false, if_true, Option.bind_some]
          exact .some ⟨ws hi hs.2.2.2.2.1, this⟩
      · rw [if_neg (by simp)]
        rw [List.take_length] at hJ
        exact .some hJ
    by_cases hl : (lookA .str x b.2.2[k].1).isSome = true
    · have := hJ.snoc (s := b.2.2[k]) (m := (inner.choose)) inner.choose_spec.2
      rw [List.take_append_getElem hk, if_pos hl] at this
      simp only [hl, if_true, Option.bind_some]
      exact .some ⟨ws hk hw.2.2.1, this⟩
    · simp only [hl, Bool.false_eq_true, if_false]
      refine Wp.seq (fun z => SIx z (b.2.2.take (k + 1))) ?_ fun z hz => .some ⟨ws hk hw.2.2.1, hz⟩
      refine Wp.seq (fun z => SIx z (b.2.2.take (k + 1))) ?_ fun z hz => .some hz
      refine Wp.seq _ inner fun m hm => .some ?_
      have := hJ.snoc (s := b.2.2[k]) hm
      rw [List.take_append_getElem hk, if_neg hl] at this
      exact this
  · rw [if_neg (by simp)]
    rw [List.take_length] at hJ
    exact .some hJ

theorem counterpart_eq (x : Ix) (l : List Sc) (h : SIx x l) (sn rn : ByteArray) : M.lawdiff_index_counterpart big x sn rn = some (cpOut (cp l sn rn)) := by
  unfold M.lawdiff_index_counterpart cp
  have h1 := h sn
  cases hf : firstS l sn with
  | none =>
    rw [hf] at h1
    have h1 : lookA .str x sn = none := h1
    rw [h1]
    rfl
  | some i =>
    rw [hf] at h1
    obtain ⟨s, m, g1, g2, g3⟩ := h1
    rw [g2]
    simp only [Option.isSome_some, Bool.not_true, Bool.false_eq_true, if_false, Option.getD_some, g1, g3 rn]
    cases hr : firstR s.2.2.2.2 rn with
    | none => rfl
    | some n => rfl
end L
end Go.Proofs.Ytacochphlicngaa
