/- Regions whose order is drawn: one walk serves every order. -/
import Derived.Test.YtjeeligfdpociaaGreatDraw
namespace Go.Proofs.YtjeeligfdpociaaGreat
open Go Go.RowKit

/-! ## Who must come before whom -/
def ancE (acc : List Nat) (i : Nat) : List Edge → Option Nat
  | [] => some 0
  | e :: l => match ancE acc i l with
    | some m => bif Region.binds .any e then (bif Nat.blt e.on i then some (m ||| 2 ^ e.on ||| acc.getD e.on 0) else none) else some m
    | none => none
def ancs (acc : List Nat) : List Oper → Option (List Nat)
  | [] => some acc
  | o :: l => match ancE acc acc.length o.after.toList with
    | some m => ancs (acc ++ [m]) l
    | none => none

def optMem (d : Option Nat) (l : List Nat) : Bool :=
  match d with
  | some t => memB t l
  | none => false
def meetB (l l' : List Nat) : Bool := l.any fun o => memB o l'
def Ent.hard (x : Ent) : List Nat := x.mut.filter fun o => !memB o x.soft
def conflict (a b : Ent) : Bool :=
  optMem a.dst b.ts || optMem b.dst a.ts || optMem a.dst (b.dst.toList) || meetB a.mut (b.os ++ b.mut) || meetB a.hard b.ls || meetB (a.os ++ a.ls ++ a.mut) b.mut
/-- Every later one that conflicts with x (which is number i) has i among those before it. -/
def laterOK (ms : List Nat) (i : Nat) (x : Ent) : Nat → List Ent → Bool
  | _, [] => true
  | j, y :: l => (bif conflict x y then Nat.testBit (ms.getD j 0) i else true) && laterOK ms i x (j + 1) l
def pairsOK (ms : List Nat) : Nat → List Ent → Bool
  | _, [] => true
  | i, x :: l => laterOK ms i x (i + 1) l && pairsOK ms (i + 1) l
def drawOK (ops : List Oper) (es : List Ent) : Bool :=
  match ancs [] ops with
  | some ms => pairsOK ms 0 es
  | none => false

section
variable {ops : Array Oper}

/-- Those listed hold with each those that must come before it. -/
def Closed (ops : Array Oper) (S : Nat → Prop) : Prop := ∀ i, S i → ∀ o, ops[i]? = some o → ∀ e ∈ o.after, Region.binds .any e = true → S e.on

theorem ancE_ok {acc : List Nat} {i : Nat} : {l : List Edge} → {m : Nat} → ancE acc i l = some m → ∀ j, m.testBit j = true → ∃ e ∈ l, Region.binds .any e = true ∧ e.on < i ∧ (e.on = j ∨ (acc.getD e.on 0).testBit j = true)
  | [], m, h, j, hj => by
    obtain rfl := Option.some.inj h
    simp at hj
  | e :: l, m, h, j, hj => by
    unfold ancE at h
    split at h
    case h_2 => cases h
    rename_i m0 h0
    cases hb : Region.binds .any e with
    | false =>
      rw [hb, cond_false] at h
      obtain rfl := Option.some.inj h
      obtain ⟨e', a1, a2⟩ := ancE_ok h0 j hj
      exact ⟨e', by simp [a1], a2⟩
    | true =>
      rw [hb, cond_true] at h
      cases hlt : Nat.blt e.on i with
      | false => rw [hlt] at h; cases h
      | true =>
        rw [hlt, cond_true] at h
        obtain rfl := Option.some.inj h
        rw [Nat.testBit_or, Nat.testBit_or, Bool.or_eq_true, Bool.or_eq_true] at hj
        have hlt' : e.on < i := by simpa using hlt
        rcases hj with (hj | hj) | hj
        · obtain ⟨e', a1, a2⟩ := ancE_ok h0 j hj
          exact ⟨e', by simp [a1], a2⟩
        · rw [Nat.testBit_two_pow] at hj
          exact ⟨e, by simp, hb, hlt', .inl (of_decide_eq_true hj)⟩
        · exact ⟨e, by simp, hb, hlt', .inr hj⟩
theorem ancE_lt {acc : List Nat} {i : Nat} : {l : List Edge} → {m : Nat} → ancE acc i l = some m → ∀ e ∈ l, Region.binds .any e = true → e.on < i
  | [], m, h, e, he, _ => by cases he
  | e0 :: l, m, h, e, he, hb => by
    unfold ancE at h
    split at h
    case h_2 => cases h
    rename_i m0 h0
    rcases List.mem_cons.1 he with rfl | he
    · rw [hb, cond_true] at h
      cases hlt : Nat.blt e.on i with
      | false => rw [hlt] at h; cases h
      | true => simpa using hlt
    · exact ancE_lt h0 e he hb

theorem ancs_ok : {l : List Oper} → {acc ms : List Nat} → ancs acc l = some ms → ms.length = acc.length + l.length ∧ (∀ i, i < acc.length → ms.getD i 0 = acc.getD i 0) ∧
    ∀ k o, l[k]? = some o → ∃ m, ancE ms (acc.length + k) o.after.toList = some m ∧ ms.getD (acc.length + k) 0 = m
  | [], acc, ms, h => by
    obtain rfl := Option.some.inj h
    exact ⟨by simp, fun _ _ => rfl, fun k o h => by simp at h⟩
  | o0 :: l, acc, ms, h => by
    unfold ancs at h
    split at h
    case h_2 => cases h
    rename_i m hm
    obtain ⟨a1, a2, a3⟩ := ancs_ok h
    rw [List.length_append, List.length_singleton] at a1 a2 a3
    have acc_eq : ∀ i, i < acc.length → ms.getD i 0 = acc.getD i 0 := fun i hi => by
      rw [a2 i (by omega)]
      simp [List.getD, List.getElem?_append_left hi]
    have cong : ∀ (l : List Edge) (m : Nat), ancE acc acc.length l = some m → ancE ms acc.length l = some m := by
      intro l
      induction l with
      | nil => intro m h; exact h
      | cons e l ih =>
        intro m h
        unfold ancE at h ⊢
        split at h
        case h_2 => cases h
        rename_i m0 h0
        rw [ih m0 h0]
        simp only
        cases hb : Region.binds .any e with
        | false => rw [hb] at h; exact h
        | true =>
          rw [hb, cond_true] at h
          cases hlt : Nat.blt e.on acc.length with
          | false => rw [hlt] at h; cases h
          | true =>
            rw [hlt, cond_true] at h
            rw [cond_true, cond_true, acc_eq _ (by simpa using hlt)]
            exact h
    refine ⟨by rw [a1, List.length_cons]; omega, acc_eq, fun k o ho => ?_⟩
    cases k with
    | zero =>
      obtain rfl : o0 = o := by simpa using ho
      refine ⟨m, cong _ _ hm, ?_⟩
      rw [Nat.add_zero, a2 _ (by omega)]
      simp [List.getD]
    | succ k =>
      have := a3 k o (by simpa using ho)
      rw [show acc.length + 1 + k = acc.length + (k + 1) from by omega] at this
      exact this

theorem anc_in {ms : List Nat} (h : ancs [] ops.toList = some ms) {S : Nat → Prop} (hS : Closed ops S) : ∀ i o, ops[i]? = some o → (∀ e ∈ o.after, Region.binds .any e = true → S e.on) → ∀ j, (ms.getD i 0).testBit j = true → S j := by
  obtain ⟨_, _, a3⟩ := ancs_ok h
  intro i
  induction i using Nat.strongRecOn with
  | _ i ih =>
    intro o ho hd j hj
    obtain ⟨m, h1, h2⟩ := a3 i o (by rw [Array.getElem?_toList]; exact ho)
    simp only [List.length_nil, Nat.zero_add] at h1 h2
    rw [h2] at hj
    obtain ⟨e, he, hb, hlt, h3⟩ := ancE_ok h1 j hj
    have hSe := hd e (by simpa using he) hb
    rcases h3 with rfl | h3
    · exact hSe
    · have hlt2 : e.on < ops.size := by
        have := (Array.getElem?_eq_some_iff.1 ho).1
        omega
      exact ih e.on hlt _ (Array.getElem?_eq_getElem hlt2) (fun e' he' hb' => hS e.on hSe _ (Array.getElem?_eq_getElem hlt2) e' he' hb') j h3
end

/-! ## The state behind a set of operations -/
def slotF (S : Nat → Bool) : Nat → List Ent → (Nat → Option Desc) → Nat → Option Desc
  | _, [], f => f
  | i, x :: l, f => slotF S (i + 1) l (fun t => bif S i && optMem (some t) x.dst.toList then some x.e.dst else f t)
def objF (S : Nat → Bool) : Nat → List Ent → (Nat → Option (Nat × Th)) → Nat → Option (Nat × Th)
  | _, [], f => f
  | i, x :: l, f => objF S (i + 1) l (fun o => bif S i then (find x.e.make o).or (bif memB o x.e.eat then none else f o) else f o)

theorem keysM_mem {l : List (Nat × (Nat × Th))} {o : Nat} {x : Nat × Th} (h : find l o = some x) : o ∈ keysM l := by
  induction l with
  | nil => cases h
  | cons p l ih =>
    obtain ⟨o', y⟩ := p
    rw [find_cons] at h
    split at h
    · rename_i e; subst e; exact List.mem_cons_self
    · exact List.mem_cons_of_mem _ (ih h)

theorem dst_mem {d : Option Nat} {t : Nat} : optMem (some t) d.toList = true ↔ d = some t := by
  unfold optMem
  simp only [memB_iff, Option.mem_toList]

/-- Two sets that agree on all that write t. -/
theorem slotF_congr {S S' : Nat → Bool} {t : Nat} : {l : List Ent} → {i : Nat} → {f f' : Nat → Option Desc} → f t = f' t → (∀ k x, l[k]? = some x → x.dst = some t → S (i + k) = S' (i + k)) → slotF S i l f t = slotF S' i l f' t
  | [], _, _, _, hf, _ => hf
  | x :: l, i, f, f', hf, h => by
    show slotF S (i + 1) l _ t = slotF S' (i + 1) l _ t
    refine slotF_congr ?_ fun k y hy hd => by
      have := h (k + 1) y (by simpa using hy) hd
      rwa [show i + (k + 1) = i + 1 + k from by omega] at this
    by_cases hd : x.dst = some t
    · have := h 0 x rfl hd
      simp only [Nat.add_zero] at this
      rw [this, hf]
    · have : optMem (some t) x.dst.toList = false := by
        cases hb : optMem (some t) x.dst.toList with
        | false => rfl
        | true => exact absurd (dst_mem.1 hb) hd
      rw [this, Bool.and_false, Bool.and_false, cond_false, cond_false, hf]

theorem objF_congr {S S' : Nat → Bool} {o : Nat} : {l : List Ent} → {i : Nat} → {f f' : Nat → Option (Nat × Th)} → f o = f' o → (∀ k x, l[k]? = some x → o ∈ x.mut → S (i + k) = S' (i + k)) → objF S i l f o = objF S' i l f' o
  | [], _, _, _, hf, _ => hf
  | x :: l, i, f, f', hf, h => by
    show objF S (i + 1) l _ o = objF S' (i + 1) l _ o
    refine objF_congr ?_ fun k y hy hd => by
      have := h (k + 1) y (by simpa using hy) hd
      rwa [show i + (k + 1) = i + 1 + k from by omega] at this
    by_cases hd : o ∈ x.mut
    · have := h 0 x rfl hd
      simp only [Nat.add_zero] at this
      rw [this, hf]
    · have h1 : find x.e.make o = none := by
        cases hm : find x.e.make o with
        | none => rfl
        | some y => exact absurd (by simp [Ent.mut, keysM_mem hm]) hd
      have h2 : memB o x.e.eat = false := by
        cases hb : memB o x.e.eat with
        | false => rfl
        | true => exact absurd (by simp [Ent.mut, memB_iff.1 hb]) hd
      rw [h1, h2, Option.none_or, cond_false]
      cases S i <;> cases S' i <;> simp [hf]

/-- From a number on nothing is listed. -/
theorem slotF_none {S : Nat → Bool} {t : Nat} : {l : List Ent} → {i : Nat} → {f : Nat → Option Desc} → (∀ k x, l[k]? = some x → x.dst = some t → S (i + k) = false) → slotF S i l f t = f t
  | [], _, _, _ => rfl
  | x :: l, i, f, h => by
    show slotF S (i + 1) l _ t = _
    rw [slotF_none fun k y hy hd => by
      have := h (k + 1) y (by simpa using hy) hd
      rwa [show i + (k + 1) = i + 1 + k from by omega] at this]
    by_cases hd : x.dst = some t
    · have := h 0 x rfl hd
      simp only [Nat.add_zero] at this
      simp [this]
    · have : optMem (some t) x.dst.toList = false := by
        cases hb : optMem (some t) x.dst.toList with
        | false => rfl
        | true => exact absurd (dst_mem.1 hb) hd
      simp [this]
theorem objF_none {S : Nat → Bool} {o : Nat} : {l : List Ent} → {i : Nat} → {f : Nat → Option (Nat × Th)} → (∀ k x, l[k]? = some x → o ∈ x.mut → S (i + k) = false) → objF S i l f o = f o
  | [], _, _, _ => rfl
  | x :: l, i, f, h => by
    show objF S (i + 1) l _ o = _
    rw [objF_none fun k y hy hd => by
      have := h (k + 1) y (by simpa using hy) hd
      rwa [show i + (k + 1) = i + 1 + k from by omega] at this]
    by_cases hd : o ∈ x.mut
    · have := h 0 x rfl hd
      simp only [Nat.add_zero] at this
      simp [this]
    · have h1 : find x.e.make o = none := by
        cases hm : find x.e.make o with
        | none => rfl
        | some y => exact absurd (by simp [Ent.mut, keysM_mem hm]) hd
      have h2 : memB o x.e.eat = false := by
        cases hb : memB o x.e.eat with
        | false => rfl
        | true => exact absurd (by simp [Ent.mut, memB_iff.1 hb]) hd
      simp only [h1, h2, Option.none_or, cond_false]
      cases S i <;> rfl

/-- Up to a number. -/
theorem slotF_append {S : Nat → Bool} {l l' : List Ent} {i : Nat} {f : Nat → Option Desc} : slotF S i (l ++ l') f = slotF S (i + l.length) l' (slotF S i l f) := by
  induction l generalizing i f with
  | nil => rfl
  | cons x l ih =>
    show slotF S (i + 1) (l ++ l') _ = slotF S (i + (l.length + 1)) l' (slotF S (i + 1) l _)
    rw [ih, show i + 1 + l.length = i + (l.length + 1) from by omega]
theorem objF_append {S : Nat → Bool} {l l' : List Ent} {i : Nat} {f : Nat → Option (Nat × Th)} : objF S i (l ++ l') f = objF S (i + l.length) l' (objF S i l f) := by
  induction l generalizing i f with
  | nil => rfl
  | cons x l ih =>
    show objF S (i + 1) (l ++ l') _ = objF S (i + (l.length + 1)) l' (objF S (i + 1) l _)
    rw [ih, show i + 1 + l.length = i + (l.length + 1) from by omega]
end Go.Proofs.YtjeeligfdpociaaGreat
