/- Compiled code: what Compile answers (plain laws). -/
import Derived.Test.YtomgmnkalommeaaGreatDoorPM
import Derived.Test.YtomgmnkalommeaaGreatDoorPX6
import Derived.Test.YtomgmnkalommeaaGreatDoorPY
import Derived.Test.YtomgmnkalommeaaGreatDoorPX7
namespace Go.Proofs.YtomgmnkalommeaaGreatDoor
open Go Go.RowKit
set_option maxRecDepth 100000
namespace L

/-- Codes of several nodes, one after the other: each from its position and its depth. -/
def cgL (g : Nat → Nat → Int → List (Ty × Int)) : List Nat → Nat → Int → List (Ty × Int)
  | [], _, _ => []
  | o :: os, b, d => g o b d ++ cgL g os (b + (g o b d).length) (d + 1)
def cgAnd (g : Nat → Nat → Int → List (Ty × Int)) (n : Ty) (os : List Nat) (b : Nat) (d : Int) : List (Ty × Int) :=
  g (os.getD 0 0) b d ++ (((if (n.1 : Int) = 24 then 53 else 52, ((b + (g (os.getD 0 0) b d).length + 1 + (g (os.getD 1 0) (b + (g (os.getD 0 0) b d).length + 1) d).length : Nat) : Int)) : Int × Int), d + 1) :: g (os.getD 1 0) (b + (g (os.getD 0 0) b d).length + 1) d
def cgElse (g : Nat → Nat → Int → List (Ty × Int)) (os : List Nat) (b : Nat) (d : Int) : Nat :=
  b + (g (os.getD 0 0) b d).length + 1 + (g (os.getD 1 0) (b + (g (os.getD 0 0) b d).length + 1) d).length + 1
def cgIf (g : Nat → Nat → Int → List (Ty × Int)) (os : List Nat) (b : Nat) (d : Int) : List (Ty × Int) :=
  g (os.getD 0 0) b d ++ (((50, ((cgElse g os b d : Nat) : Int)) : Int × Int), d + 1) :: (g (os.getD 1 0) (b + (g (os.getD 0 0) b d).length + 1) d ++ (((51, ((cgElse g os b d + (g (os.getD 2 0) (cgElse g os b d) d).length : Nat) : Int)) : Int × Int), d + 1) :: g (os.getD 2 0) (cgElse g os b d) d)
/-- The code of a node: instructions with the stack's depth ahead of them. -/
def cg (e : List Ty) (st : List Nat) : Nat → Nat → Nat → Int → List (Ty × Int)
  | 0, _, _, _ => []
  | f + 1, i, b, d =>
    if ((e.getD i ((0, 0) : Int × Int)).1 : Int) = 23 ∨ ((e.getD i ((0, 0) : Int × Int)).1 : Int) = 24 then cgAnd (cg e st f) (e.getD i ((0, 0) : Int × Int)) (opsL st (ar (e.getD i ((0, 0) : Int × Int)).1).toNat i) b d
    else if ((e.getD i ((0, 0) : Int × Int)).1 : Int) = 26 then cgIf (cg e st f) (opsL st (ar (e.getD i ((0, 0) : Int × Int)).1).toNat i) b d
    else cgL (cg e st f) (opsL st (ar (e.getD i ((0, 0) : Int × Int)).1).toNat i) b d ++ [(e.getD i ((0, 0) : Int × Int), d + ((ar (e.getD i ((0, 0) : Int × Int)).1).toNat : Nat))]

theorem cgL_app (g : Nat → Nat → Int → List (Ty × Int)) : ∀ (xs ys : List Nat) (b : Nat) (d : Int), cgL g (xs ++ ys) b d = cgL g xs b d ++ cgL g ys (b + (cgL g xs b d).length) (d + xs.length)
  | [], ys, b, d => by simp [cgL]
  | x :: xs, ys, b, d => by
    rw [List.cons_append, cgL, cgL, cgL_app g xs ys]
    simp only [List.length_append, List.length_cons, List.append_assoc]
    rw [show b + (g x b d).length + (cgL g xs (b + (g x b d).length) (d + 1)).length = b + ((g x b d).length + (cgL g xs (b + (g x b d).length) (d + 1)).length) by omega, show d + 1 + (xs.length : Int) = d + ((xs.length + 1 : Nat) : Int) by omega]

/-- The length of the codes of the operands on the stack. -/
theorem cgL_len {st : List Nat} {g : Nat → Nat → Int → List (Ty × Int)} {P : Nat} (hg : ∀ (o s b : Nat) (d : Int), o < P → st[o]? = some s → s ≤ o → (g o b d).length ≤ 2 * (o + 1 - s)) : ∀ (a i : Nat) (l : List Nat), Ch st i l → a ≤ l.length → i ≤ P → ∀ (b : Nat) (d : Int), (cgL g (opsL st a i) b d).length ≤ 2 * (i - sst (a : Int) i l)
  | 0, i, l, _, _, _, b, d => by simp [opsL, cgL]
  | a + 1, i, l, c, ha, hi, b, d => by
    cases c with
    | nil => simp at ha
    | @snoc j s l h1 h2 c =>
      have hg' : st.getD (j + 1 - 1) 0 = s := by simp [List.getD, h1]
      have e1 : opsL st (a + 1) (j + 1) = opsL st a s ++ [j] := by rw [opsL, hg']; rfl
      have ha' : a ≤ l.length := by rw [List.length_append, List.length_singleton] at ha; omega
      have ih := cgL_len hg a s l c ha' (by omega) b d
      have hj := hg j s (b + (cgL g (opsL st a s) b d).length) (d + (opsL st a s).length) (by omega) h1 h2
      have es : sst ((a + 1 : Nat) : Int) (j + 1) (l ++ [s]) = if a = 0 then s else sst (a : Int) s l := by
        unfold sst
        have en : ((a + 1 : Nat) : Int).toNat = a + 1 := by omega
        have e3 : l.length + 1 - (a + 1) = l.length - a := by omega
        rw [if_neg (by omega), List.length_append, List.length_singleton, en, e3]
        by_cases h0 : a = 0
        · rw [if_pos h0, h0]; simp [List.getD]
        · have hlt : l.length - a < l.length := by omega
          rw [if_neg h0, if_neg (by omega), Int.toNat_natCast]
          simp [List.getD, List.getElem?_append_left hlt]
      have hle : sst (a : Int) s l ≤ s := sst_le (by omega) c (by omega)
      have hs0 : a = 0 → sst (a : Int) s l = s := fun h => by unfold sst; rw [if_pos (by omega)]
      rw [e1, cgL_app, List.length_append, es]
      simp only [cgL, List.append_nil]
      split
      · rename_i h0
        have := hs0 h0
        omega
      · omega

theorem cgL_ind {g : Nat → Nat → Int → List (Ty × Int)} (hg : ∀ (o b b' : Nat) (d d' : Int), (g o b d).length = (g o b' d').length) : ∀ (os : List Nat) (b b' : Nat) (d d' : Int), (cgL g os b d).length = (cgL g os b' d').length
  | [], _, _, _, _ => rfl
  | o :: os, b, b', d, d' => by
    rw [cgL, cgL, List.length_append, List.length_append, hg o b b' d d', cgL_ind hg os _ (b' + (g o b' d').length) _ (d' + 1)]
theorem cg_ind (e : List Ty) (st : List Nat) : ∀ (f i b b' : Nat) (d d' : Int), (cg e st f i b d).length = (cg e st f i b' d').length
  | 0, _, _, _, _, _ => rfl
  | f + 1, i, b, b', d, d' => by
    have ih := cg_ind e st f
    rw [cg, cg]
    split
    · unfold cgAnd
      simp only [List.length_append, List.length_cons]
      rw [ih _ b b' d d', ih _ (b + _ + 1) (b' + ((cg e st f ((opsL st (ar (e.getD i ((0, 0) : Int × Int)).1).toNat i).getD 0 0) b' d').length) + 1) d d']
    split
    · unfold cgIf
      simp only [List.length_append, List.length_cons]
      rw [ih _ b b' d d', ih _ (b + _ + 1) (b' + ((cg e st f ((opsL st (ar (e.getD i ((0, 0) : Int × Int)).1).toNat i).getD 0 0) b' d').length) + 1) d d', ih _ (cgElse (cg e st f) _ b d) (cgElse (cg e st f) (opsL st (ar (e.getD i ((0, 0) : Int × Int)).1).toNat i) b' d') d d']
    · simp only [List.length_append, List.length_cons]
      rw [cgL_ind ih _ b b' d d']
theorem cg_len {e : List Ty} {st : List Nat} (w : Whole e st) : ∀ (f i s b : Nat) (d : Int), i < e.length → st[i]? = some s → s ≤ i → (cg e st f i b d).length ≤ 2 * (i + 1 - s)
  | 0, i, s, b, d, _, _, _ => by simp [cg]
  | f + 1, i, s, b, d, hi, hs, hsi => by
    obtain ⟨v1, l, v2, v3, v4, v5⟩ := w.val.node i hi
    have hge : e.getD i ((0, 0) : Int × Int) = e[i] := by simp only [List.getD, List.getElem?_eq_getElem hi, Option.getD_some]
    have hss : s = sst (ar e[i].1) i l := by rw [hs] at v5; exact Option.some.inj v5
    obtain ⟨a, ha⟩ : ∃ a : Nat, ar e[i].1 = a := ⟨(ar e[i].1).toNat, by omega⟩
    have key := cgL_len (st := st) (g := cg e st f) (P := i) (fun o s b d ho hso hso' => cg_len w f o s b d (by omega) hso hso') a i l v2 (by omega) (Nat.le_refl _)
    have hsl : sst (a : Int) i l ≤ i := sst_le (by omega) v2 (by omega)
    rw [ha] at hss
    rw [cg, hge]
    have han : (ar e[i].1).toNat = a := by omega
    rw [han]
    have ih := cg_ind e st f
    have key := key b d
    split
    · rename_i hop
      have h2 : a = 2 := by
        have : ar e[i].1 = 2 := by rcases hop with h | h <;> rw [h] <;> rfl
        omega
      subst h2
      obtain ⟨o0, o1, hos⟩ := len2 (opsL_len st 2 i)
      rw [hos] at key ⊢
      unfold cgAnd
      simp only [cgL, List.append_nil, List.length_append, List.length_cons, List.getD_cons_zero, List.getD_cons_succ] at key ⊢
      have := ih o1 (b + (cg e st f o0 b d).length) (b + (cg e st f o0 b d).length + 1) (d + 1) d
      omega
    split
    · rename_i hop
      have h3 : a = 3 := by
        have : ar e[i].1 = 3 := by rw [hop]; rfl
        omega
      subst h3
      obtain ⟨o0, o1, o2, hos⟩ := len3 (opsL_len st 3 i)
      rw [hos] at key ⊢
      unfold cgIf
      simp only [cgL, List.append_nil, List.length_append, List.length_cons, List.getD_cons_zero, List.getD_cons_succ] at key ⊢
      have h1 := ih o1 (b + (cg e st f o0 b d).length) (b + (cg e st f o0 b d).length + 1) (d + 1) d
      have h2 := ih o2 (b + (cg e st f o0 b d).length + (cg e st f o1 (b + (cg e st f o0 b d).length) (d + 1)).length) (cgElse (cg e st f) [o0, o1, o2] b d) (d + 1 + 1) d
      omega
    · rw [List.length_append, List.length_singleton]
      omega
theorem cg_96 {e : List Ty} {st : List Nat} (w : Whole e st) {f i b : Nat} {d : Int} (hi : i < e.length) : (cg e st f i b d).length ≤ 96 := by
  obtain ⟨v1, l, v2, v3, v4, v5⟩ := w.val.node i hi
  have hle := w.le
  have := cg_len w f i _ b d hi v5 (sst_le v1 v2 v3)
  omega

theorem setL_mid {α : Type} (p q : List α) (x y : α) : setL (p ++ x :: q) (p.length : Int) y = p ++ y :: q := by
  unfold setL
  rw [Int.toNat_natCast, List.set_append_right _ _ (Nat.le_refl _), Nat.sub_self]
  rfl
theorem idx_mid {α : Type} (p q : List α) (x : α) : idx (p ++ x :: q) (p.length : Int) = some x := by
  rw [idx_nat (by simp)]
  simp

abbrev ins (l : List (Ty × Int)) : List Ty := l.map Prod.fst

theorem compile_eq {e : List Ty} {st : List Nat} (w : Whole e st) : ∀ (f i N : Nat), i < f → i < e.length → f ≤ N → ∀ (code : List Ty) (d : Int), code.length + 400 * f ≤ 1000000 → M.bytecode_compileNode_r big N e (i : Int) code = some (code ++ ins (cg e st f i code.length d))
  | 0, _, _, h, _, _, _, _, _ => by omega
  | f + 1, i, 0, _, _, h, _, _, _ => by omega
  | f + 1, i, N + 1, hf, hi, hN, code, d, hc => by
    have ih := compile_eq w f
    have hle := w.le
    have hlt : ∀ o ∈ opsL st (ar e[i].1).toNat i, o < i := fun o ho => (w.val.ops hi o ho).1
    have h96 : ∀ o ∈ opsL st (ar e[i].1).toNat i, ∀ b d, (cg e st f o b d).length ≤ 96 := fun o ho b d => cg_96 w (by have := hlt o ho; omega)
    have hge : e.getD i ((0, 0) : Int × Int) = e[i] := by simp only [List.getD, List.getElem?_eq_getElem hi, Option.getD_some]
    obtain ⟨v1, _⟩ := w.val.node i hi
    have har := ar_le e[i].1
    unfold M.bytecode_compileNode_r
    rw [Operands_eq w hi, idx_nat hi, cg, hge]
    simp only [Option.bind_some]
    rw [or2c]
    simp only [Option.bind_some]
    have hlen := opsL_len st (ar e[i].1).toNat i
    generalize hos : opsL st (ar e[i].1).toNat i = os at *
    by_cases hao : (e[i].1 : Int) = 23 ∨ (e[i].1 : Int) = 24
    · rw [decide_eq_true hao, if_pos rfl, if_pos hao]
      have h2 : (ar e[i].1).toNat = 2 := by rcases hao with h | h <;> rw [h] <;> rfl
      obtain ⟨o0, o1, rfl⟩ := len2 (l := os) (by omega)
      have hop : (if decide ((e[i].1 : Int) = 24) = true then some (53 : Int) else some (52 : Int)) = some (if (e[i].1 : Int) = 24 then (53 : Int) else 52) := by
        by_cases h : (e[i].1 : Int) = 24 <;> simp [h]
      rw [hop]
      have i0 : idx (natL [o0, o1]) (0 : Int) = some (o0 : Int) := rfl
      have i1 : idx (natL [o0, o1]) (1 : Int) = some (o1 : Int) := rfl
      have l0 := hlt o0 (by simp)
      have l1 := hlt o1 (by simp)
      have n0 := h96 o0 (by simp) code.length d
      have r0 := ih o0 N (by omega) (by omega) (by omega) code d (by omega)
      generalize hg0 : cg e st f o0 code.length d = g0 at *
      have hl' : (code ++ ins g0).length = code.length + g0.length := by simp
      generalize hx : (if (e[i].1 : Int) = 24 then (53 : Int) else 52) = x
      have r1 := ih o1 N (by omega) (by omega) (by omega) (code ++ ins g0 ++ [((x, 0) : Int × Int)]) d (by rw [List.length_append, hl', List.length_singleton]; omega)
      rw [show (code ++ ins g0 ++ [((x, 0) : Int × Int)]).length = code.length + g0.length + 1 by rw [List.length_append, hl', List.length_singleton]] at r1
      have hA : cgAnd (cg e st f) e[i] [o0, o1] code.length d = g0 ++ (((x, ((code.length + g0.length + 1 + (cg e st f o1 (code.length + g0.length + 1) d).length : Nat) : Int)) : Int × Int), d + 1) :: cg e st f o1 (code.length + g0.length + 1) d := by
        unfold cgAnd
        simp only [List.getD_cons_zero, List.getD_cons_succ, hg0, hx]
      rw [hA]
      generalize cg e st f o1 (code.length + g0.length + 1) d = g1 at *
      rw [i0, i1]
      simp only [Option.bind_some]
      rw [r0]
      simp only [Option.bind_some]
      rw [appA_some (by rw [hl', List.length_singleton]; omega)]
      simp only [Option.bind_some]
      rw [r1]
      simp only [Option.bind_some]
      rw [List.append_assoc (code ++ ins g0), List.singleton_append, idx_mid]
      simp only [Option.bind_some]
      rw [setL_mid]
      have hn : (((code ++ ins g0 ++ ((x, 0) : Int × Int) :: ins g1 : List Ty)).length : Int) = ((code.length + g0.length + 1 + g1.length : Nat) : Int) := by
        rw [List.length_append, hl']; simp; omega
      rw [hn]
      simp [ins]
    rw [decide_eq_false hao, if_neg (by simp), if_neg hao]
    by_cases hif : (e[i].1 : Int) = 26
    · rw [decide_eq_true hif, if_pos rfl, if_pos hif]
      have h3 : (ar e[i].1).toNat = 3 := by rw [hif]; rfl
      obtain ⟨o0, o1, o2, rfl⟩ := len3 (l := os) (by omega)
      have i0 : idx (natL [o0, o1, o2]) (0 : Int) = some (o0 : Int) := rfl
      have i1 : idx (natL [o0, o1, o2]) (1 : Int) = some (o1 : Int) := rfl
      have i2 : idx (natL [o0, o1, o2]) (2 : Int) = some (o2 : Int) := rfl
      have l0 := hlt o0 (by simp)
      have l1 := hlt o1 (by simp)
      have l2 := hlt o2 (by simp)
      have n0 := h96 o0 (by simp) code.length d
      have n1 := h96 o1 (by simp)
      have r0 := ih o0 N (by omega) (by omega) (by omega) code d (by omega)
      generalize hg0 : cg e st f o0 code.length d = g0 at *
      have hl' : (code ++ ins g0).length = code.length + g0.length := by simp
      have r1 := ih o1 N (by omega) (by omega) (by omega) (code ++ ins g0 ++ [((50, 0) : Int × Int)]) d (by rw [List.length_append, hl', List.length_singleton]; omega)
      rw [show (code ++ ins g0 ++ [((50, 0) : Int × Int)]).length = code.length + g0.length + 1 by rw [List.length_append, hl', List.length_singleton]] at r1
      have n1 := n1 (code.length + g0.length + 1) d
      generalize hg1 : cg e st f o1 (code.length + g0.length + 1) d = g1 at *
      generalize hE : code.length + g0.length + 1 + g1.length + 1 = E
      have hel : cgElse (cg e st f) [o0, o1, o2] code.length d = E := by
        unfold cgElse
        simp only [List.getD_cons_zero, List.getD_cons_succ, hg0, hg1]
        exact hE
      have hp : (code ++ ins g0 ++ ((50, (E : Int)) : Int × Int) :: ins g1).length = code.length + g0.length + 1 + g1.length := by rw [List.length_append, hl']; simp; omega
      have r2 := ih o2 N (by omega) (by omega) (by omega) (code ++ ins g0 ++ ((50, (E : Int)) : Int × Int) :: ins g1 ++ [((51, 0) : Int × Int)]) d (by rw [List.length_append, hp, List.length_singleton]; omega)
      rw [show (code ++ ins g0 ++ ((50, (E : Int)) : Int × Int) :: ins g1 ++ [((51, 0) : Int × Int)]).length = E by rw [List.length_append, hp, List.length_singleton]; omega] at r2
      have hI : cgIf (cg e st f) [o0, o1, o2] code.length d = g0 ++ (((50, (E : Int)) : Int × Int), d + 1) :: (g1 ++ (((51, ((E + (cg e st f o2 E d).length : Nat) : Int)) : Int × Int), d + 1) :: cg e st f o2 E d) := by
        unfold cgIf
        rw [hel]
        simp only [List.getD_cons_zero, List.getD_cons_succ, hg0, hg1]
      rw [hI]
      generalize cg e st f o2 E d = g2 at *
      rw [i0, i1, i2]
      simp only [Option.bind_some]
      rw [r0]
      simp only [Option.bind_some]
      rw [appA_some (by rw [hl', List.length_singleton]; omega)]
      simp only [Option.bind_some]
      rw [r1]
      simp only [Option.bind_some]
      have hq : (code ++ ins g0 ++ [((50, 0) : Int × Int)] ++ ins g1).length = code.length + g0.length + 1 + g1.length := by rw [List.length_append, List.length_append, hl']; simp
      rw [appA_some (by rw [hq, List.length_singleton]; omega)]
      simp only [Option.bind_some]
      have hz : code ++ ins g0 ++ [((50, 0) : Int × Int)] ++ ins g1 ++ [((51, 0) : Int × Int)] = (code ++ ins g0) ++ ((50, 0) : Int × Int) :: (ins g1 ++ [((51, 0) : Int × Int)]) := by simp
      have hzl : ((code ++ ins g0 ++ [((50, 0) : Int × Int)] ++ ins g1 ++ [((51, 0) : Int × Int)]).length : Int) = (E : Int) := by rw [List.length_append, hq, List.length_singleton]; omega
      rw [hzl, hz, idx_mid]
      simp only [Option.bind_some]
      rw [setL_mid]
      have hz2 : code ++ ins g0 ++ ((50, (E : Int)) : Int × Int) :: (ins g1 ++ [((51, 0) : Int × Int)]) = code ++ ins g0 ++ ((50, (E : Int)) : Int × Int) :: ins g1 ++ [((51, 0) : Int × Int)] := by simp
      rw [hz2, r2]
      simp only [Option.bind_some]
      rw [List.append_assoc (code ++ ins g0 ++ _ :: ins g1), List.singleton_append, hq, ← hp, idx_mid]
      simp only [Option.bind_some]
      rw [setL_mid]
      have hn : (((code ++ ins g0 ++ ((50, (E : Int)) : Int × Int) :: ins g1 ++ ((51, 0) : Int × Int) :: ins g2 : List Ty)).length : Int) = ((E + g2.length : Nat) : Int) := by
        rw [List.length_append, hp]; simp; omega
      rw [hn]
      simp [ins]
    rw [decide_eq_false hif, if_neg (by simp), if_neg hif]
    have hloop : Loop (S := Int × List rType.den) (X := List rType.den) (fun s102 => (if (decide (s102.1 < ((natL os).length : Int))) = true then (idx (natL os) s102.1).bind fun x103 => (M.bytecode_compileNode_r big N e x103 s102.2).bind fun y104 => some (Sum.inl (IntKind.i64.wrap (s102.1 + (1 : Int)), y104)) else some (Sum.inr s102.2))) big ((0 : Int), code) = some (code ++ ins (cgL (cg e st f) os code.length d)) := by
      apply Wp.eq
      have hos3 : os.length ≤ 3 := by omega
      refine Wp.loop (fun s : Int × List Ty => ∃ k : Nat, s.1 = k ∧ k ≤ os.length ∧ s.2 = code ++ ins (cgL (cg e st f) (os.take k) code.length d) ∧ (cgL (cg e st f) (os.take k) code.length d).length ≤ 96 * k) (fun s => (os.length - s.1).toNat) ⟨0, rfl, Nat.zero_le _, by simp [cgL], by simp [cgL]⟩ (by unfold big; simp only; omega) ?_
      rintro ⟨_, c⟩ ⟨k, rfl, hk, hcd, hl96⟩
      dsimp only at hcd ⊢
      subst hcd
      rw [List.length_map]
      refine Wp.dec (fun h => ?_) fun h => .some ?_
      · have hk' : k < os.length := by omega
        have hm := List.getElem_mem hk'
        have hlk := hlt _ hm
        rw [idx_nat (by simpa using hk')]
        simp only [Option.bind_some, List.getElem_map]
        have hcl : (code ++ ins (cgL (cg e st f) (os.take k) code.length d)).length = code.length + (cgL (cg e st f) (os.take k) code.length d).length := by simp
        rw [ih _ N (by omega) (by omega) (by omega) _ (d + (os.take k).length) (by rw [hcl]; omega), hcl, wrap_succ (by omega)]
        have htk : cgL (cg e st f) (os.take (k + 1)) code.length d = cgL (cg e st f) (os.take k) code.length d ++ cg e st f os[k] (code.length + (cgL (cg e st f) (os.take k) code.length d).length) (d + (os.take k).length) := by
          rw [List.take_succ_eq_append_getElem hk', cgL_app]
          simp [cgL]
        have h96' := h96 _ hm (code.length + (cgL (cg e st f) (os.take k) code.length d).length) (d + (os.take k).length)
        refine .some ⟨⟨k + 1, rfl, hk', ?_, ?_⟩, by simp only; omega⟩
        · rw [htk]; simp [ins]
        · rw [htk, List.length_append]; omega
      · show _ = _
        rw [List.take_of_length_le (by omega)]
    rw [hloop]
    simp only [Option.bind_some]
    have hcg : (code ++ ins (cgL (cg e st f) os code.length d)).length ≤ 1000000 := by
      have := cg_96 w (f := f + 1) (b := code.length) (d := d) hi
      rw [cg, hge, if_neg hao, if_neg hif, hos, List.length_append] at this
      simp; omega
    rw [appA_some (by rw [List.length_singleton]; omega)]
    simp [ins]

/-- Depths that fit the code. -/
structure FOK (code : List Ty) (F : List Int) : Prop where
  pos : 0 < code.length
  le : code.length ≤ 128
  len : F.length = code.length + 1
  bd : ∀ k, k ≤ code.length → 0 ≤ gd F k ∧ gd F k ≤ 12
  first : gd F 0 = 0
  last : gd F code.length = 1
  step : ∀ j (h : j < code.length), StepOK code.length F j code[j] ∧ ¬ isLazy code[j].1
  reach : ∀ k, 0 < k → k ≤ code.length → ∃ j, ∃ h : j < code.length, j < k ∧ ((j + 1 = k ∧ (code[j].1 : Int) ≠ 51) ∨ ((50 ≤ (code[j].1 : Int) ∧ (code[j].1 : Int) ≤ 53) ∧ (code[j].2 : Int) = k))

structure Cs (F D : List Int) : Prop where
  len : D.length = F.length
  ok : ∀ k, gd D k = -1 ∨ gd D k = gd F k
theorem Cs.set {F D : List Int} (c : Cs F D) {t : Nat} (ht : t < F.length) : Cs F (D.set t (gd F t)) := by
  refine ⟨by rw [List.length_set, c.len], fun k => ?_⟩
  rw [gd_set (by rw [c.len]; exact ht)]
  split
  · rename_i h; rw [h]; exact .inr rfl
  · exact c.ok k
theorem reach_c {N : Nat} {F D : List Int} (c : Cs F D) {t : Nat} (ht : t < F.length) : M.bytecode_verifier_reach N (t : Int) (gd F t) D = some (0, D.set t (gd F t)) := by
  have htD : t < D.length := by rw [c.len]; exact ht
  unfold M.bytecode_verifier_reach
  rw [gd_idx htD]
  simp only [Option.bind_some, ite_some]
  rcases c.ok t with h | h
  · rw [h]; rfl
  · rw [h]
    by_cases h0 : 0 ≤ gd F t <;> simp [h0, setL]

def Fwd (F D : List Int) (i : Nat) (n : Ty) : Prop := ((n.1 : Int) ≠ 51 → gd D (i + 1) = gd F (i + 1)) ∧ ((50 ≤ (n.1 : Int) ∧ (n.1 : Int) ≤ 53) → ∀ t : Nat, (n.2 : Int) = t → gd D t = gd F t)
structure Up (F D D' : List Int) (i : Nat) : Prop where
  low : ∀ k, k ≤ i → gd D' k = gd D k
  keep : ∀ k, gd D k = gd F k → gd D' k = gd F k
theorem Up.set {F D : List Int} {t i : Nat} (ht : t < D.length) (hti : i < t) : Up F D (D.set t (gd F t)) i := by
  refine ⟨fun k hk => ?_, fun k hk => ?_⟩ <;> rw [gd_set ht]
  · rw [if_neg (by omega)]
  · split
    · rename_i h; rw [h]
    · exact hk
theorem Up.trans {F A B C : List Int} {i : Nat} (h : Up F A B i) (h' : Up F B C i) : Up F A C i :=
  ⟨fun k hk => (h'.low k hk).trans (h.low k hk), fun k hk => h'.keep k (h.keep k hk)⟩

theorem step_c {N : Nat} {code : List Ty} {F D : List Int} (f : FOK code F) (c : Cs F D) {i : Nat} (hi : i < code.length) (h0 : gd D i = gd F i) : Wp (M.bytecode_verifier_step N code (i : Int) code[i] D) fun r => r.1 = 0 ∧ Cs F r.2 ∧ Up F D r.2 i ∧ Fwd F r.2 i code[i] := by
  have hle := f.le
  have hFl := f.len
  have hDl := c.len
  have hb := f.bd i (by omega)
  have hb1 := f.bd (i + 1) (by omega)
  obtain ⟨hs, hlz⟩ := f.step i hi
  unfold M.bytecode_verifier_step Fwd
  generalize code[i] = n at *
  obtain ⟨(op : Int), (m : Int)⟩ := n
  dsimp only [rInt, Row.den] at *
  have har := ar_le op
  rw [isInstr_eq, isJump_eq, gd_idx (by omega), arity_eq, or3c, h0]
  simp only [Option.bind_some]
  have e0 : (50 ≤ op ∧ op ≤ 53 ∨ 0 ≤ ar op) → (50 ≤ op ∧ op ≤ 53 → (i : Int) < m ∧ m ≤ (code.length : Int)) → (if (!decide (¬ isLazy op ∧ (50 ≤ op ∧ op ≤ 53 ∨ 0 ≤ ar op))) = true then some true else (if decide (50 ≤ op ∧ op ≤ 53) = true then (if decide (m ≤ (i : Int)) = true then some true else some (decide ((code.length : Int) < m))) else some false)) = some false := by
    intro g1 g2
    rw [decide_eq_true (show ¬ isLazy op ∧ (50 ≤ op ∧ op ≤ 53 ∨ 0 ≤ ar op) from ⟨hlz, g1⟩), if_neg (by simp)]
    by_cases g : 50 ≤ op ∧ op ≤ 53
    · obtain ⟨g3, g4⟩ := g2 g
      rw [decide_eq_true g, if_pos rfl, decide_eq_false (by omega), if_neg (by simp), decide_eq_false (by omega)]
    · rw [decide_eq_false g, if_neg (by simp)]
  rcases hs with ⟨h1, t, h2, h3, h4, h5⟩ | ⟨h1, h2, h3, t, h4, h5, h6, h7⟩ | ⟨h1, h2, h3, h4, h5, h6⟩
  · dsimp only [rInt, Row.den] at *
    subst h2
    rw [e0 (.inl (by omega)) (fun _ => by omega)]
    simp only [Option.bind_some, Bool.false_eq_true, if_false]
    refine Wp.dec (fun _ => ?_) fun h => absurd h1 h
    rw [← h5, reach_c c (by omega)]
    refine .some ⟨rfl, c.set (by omega), Up.set (by omega) h3, fun h => absurd h1 h, fun _ u hu => ?_⟩
    obtain rfl : t = u := by omega
    show gd (D.set t (gd F t)) t = _
    rw [gd_set (by omega), if_pos rfl]
  · dsimp only [rInt, Row.den] at *
    subst h4
    rw [e0 (.inl (by omega)) (fun _ => by omega)]
    simp only [Option.bind_some, Bool.false_eq_true, if_false]
    refine Wp.dec (fun h => by omega) fun _ => ?_
    refine Wp.dec (fun _ => ?_) fun h => absurd h1 h
    refine Wp.dec (fun h => by omega) fun _ => ?_
    have w1 : IntKind.i64.wrap (gd F i - 1) = gd F (i + 1) := by rw [wrap_id (by omega) (by omega), h3]
    rw [w1, wrap_succ (by omega), reach_c c (by omega)]
    have c1 := c.set (t := i + 1) (by omega)
    have u1 : Up F D (D.set (i + 1) (gd F (i + 1))) i := Up.set (by omega) (by omega)
    simp only [Option.bind_some]
    refine Wp.ndec (fun h => absurd trivial h) fun _ => ?_
    have e7 : (if decide (op = 50) = true then some (gd F (i + 1)) else some (gd F i)) = some (gd F t) := by
      by_cases h50 : op = 50
      · rw [decide_eq_true h50, if_pos rfl, h7, if_pos h50, h3]
      · rw [decide_eq_false h50, if_neg (by simp), h7, if_neg h50]
    rw [e7]
    simp only [Option.bind_some]
    rw [reach_c c1 (by omega)]
    have c2 := c1.set (t := t) (by omega)
    have u2 : Up F (D.set (i + 1) (gd F (i + 1))) ((D.set (i + 1) (gd F (i + 1))).set t (gd F t)) i := Up.set (by rw [List.length_set]; omega) h5
    refine .some ⟨rfl, c2, u1.trans u2, fun _ => u2.keep _ (by rw [gd_set (by omega), if_pos rfl]), fun _ u hu => ?_⟩
    obtain rfl : t = u := by omega
    show gd (((D.set (i + 1) (gd F (i + 1)))).set t (gd F t)) t = _
    rw [gd_set (by rw [List.length_set]; omega), if_pos rfl]
  · dsimp only [rInt, Row.den] at *
    have hop : ¬ (50 ≤ op ∧ op ≤ 53) := by
      intro h
      have : op = 50 ∨ op = 51 ∨ op = 52 ∨ op = 53 := by omega
      omega
    rw [e0 (.inr h3) (fun h => absurd h hop)]
    simp only [Option.bind_some, Bool.false_eq_true, if_false]
    refine Wp.dec (fun h => absurd h h1) fun _ => ?_
    refine Wp.dec (fun h => absurd h h2) fun _ => ?_
    refine Wp.dec (fun h => by omega) fun _ => ?_
    have w1 : IntKind.i64.wrap (gd F i - ar op) = gd F i - ar op := wrap_id (by omega) (by omega)
    have w2 : IntKind.i64.wrap (gd F i - ar op + 1) = gd F (i + 1) := by rw [wrap_id (by omega) (by omega), h5]
    rw [w1, w2]
    refine Wp.dec (fun h => by omega) fun _ => ?_
    rw [wrap_succ (by omega), reach_c c (by omega)]
    exact .some ⟨rfl, c.set (by omega), Up.set (by omega) (by omega), fun _ => by show gd (D.set (i + 1) (gd F (i + 1))) (i + 1) = _; rw [gd_set (by omega), if_pos rfl], fun h => absurd h hop⟩

theorem Verify_ok {code : List Ty} {F : List Int} (f : FOK code F) : Wp (M.bytecode_Verify big code) fun y => y.2 = 0 := by
  have hl := f.le
  have hp := f.pos
  have hFl := f.len
  unfold M.bytecode_Verify
  refine Wp.dec (fun h => by omega) fun h1 => ?_
  refine Wp.dec (fun h => by omega) fun h2 => ?_
  rw [wrap_succ (by omega)]
  have hmk : mkL ((code.length + 1 : Nat) : Int) (0 : Int) = some (List.replicate (code.length + 1) 0) := by
    unfold mkL
    rw [if_pos (by omega), Int.toNat_natCast]
  rw [hmk]
  simp only [Option.bind_some]
  refine Wp.seq (· = List.replicate (code.length + 1) (-1 : Int)) ?_ ?_
  · refine Wp.loop (fun s : Int × List Int => ∃ k m : Nat, s = ((k : Int), List.replicate k (-1) ++ List.replicate m 0) ∧ k + m = code.length + 1) (fun s => (code.length + 1 - s.1).toNat) ⟨0, code.length + 1, by simp, by omega⟩ (by unfold big; simp only; omega) ?_
    rintro _ ⟨k, m, rfl, hk⟩
    simp only [List.length_replicate]
    refine Wp.dec (fun h => ?_) fun h => .some ?_
    · obtain ⟨m, rfl⟩ : ∃ m', m = m' + 1 := ⟨m - 1, by omega⟩
      rw [idx_nat (by simp)]
      simp only [Option.bind_some]
      rw [wrap_succ (by omega)]
      refine .some ⟨⟨k + 1, m, ?_, by omega⟩, by simp only; omega⟩
      refine Prod.ext rfl ?_
      simp only [setL, Int.toNat_natCast]
      rw [List.set_append_right _ _ (by simp), List.replicate_succ]
      simp [List.replicate_succ']
    · obtain rfl : m = 0 := by omega
      obtain rfl : k = code.length + 1 := by omega
      show _ = _
      simp
  rintro _ rfl
  have e1 : idx (List.replicate (code.length + 1) (-1 : Int)) 0 = some (-1) := by rw [List.replicate_succ]; rfl
  rw [e1]
  simp only [Option.bind_some]
  have e0 : setL (List.replicate (code.length + 1) (-1 : Int)) (0 : Int) (0 : Int) = (List.replicate (code.length + 1) (-1 : Int)).set 0 0 := rfl
  rw [e0]
  have g0 : ∀ k, gd ((List.replicate (code.length + 1) (-1 : Int)).set 0 0) k = if k = 0 then 0 else -1 := fun k => by
    rw [gd_set (by simp), gd_rep]
  refine Wp.join (Wp.loop (fun s : Int × Int × List Int => ∃ i : Nat, s.2.1 = i ∧ i ≤ code.length ∧ Cs F s.2.2 ∧ (∀ k, k ≤ i → gd s.2.2 k = gd F k) ∧ ∀ j (h : j < code.length), j < i → Fwd F s.2.2 j code[j]) (fun s => (code.length - s.2.1).toNat) ⟨0, rfl, Nat.zero_le _, ⟨by simp [hFl], fun k => ?_⟩, fun k hk => ?_, fun j _ h => by omega⟩ (by unfold big; simp only; omega) ?_)
  · simp only [g0]; split
    · rename_i h; rw [h, f.first]; exact .inr rfl
    · exact .inl rfl
  · obtain rfl : k = 0 := by omega
    simp only [g0]; rw [f.first]; rfl
  rintro ⟨g, at', D⟩ ⟨i, hat, hi, hc, hlow, hf⟩
  dsimp only at hat hi hc hlow hf ⊢
  subst hat
  have hDl := hc.len
  refine Wp.dec (fun hlt => ?_) fun hge => .some ?_
  · have hlt : i < code.length := by omega
    have hbi := f.bd i hi
    have hgi := hlow i (Nat.le_refl _)
    rw [wrap_succ (by omega), idx_nat hlt, gd_idx (by omega)]
    simp only [Option.bind_some]
    refine Wp.join ?_
    refine Wp.dec (fun h => by omega) fun _ => ?_
    refine Wp.seq _ (step_c f hc hlt hgi) fun r hr => ?_
    obtain ⟨r1, r2, r3, r4⟩ := hr
    refine Wp.ndec (fun h => absurd r1 h) fun _ => .some ?_
    have hf' : ∀ j (h : j < code.length), j < i + 1 → Fwd F r.2 j code[j] := fun j h hj => by
      by_cases hji : j = i
      · subst hji; exact r4
      · obtain ⟨a, b⟩ := hf j h (by omega)
        exact ⟨fun g => r3.keep _ (a g), fun g t ht => r3.keep _ (b g t ht)⟩
    refine Wp.some ⟨⟨i + 1, rfl, hlt, r2, fun k hk => ?_, hf'⟩, by simp only; omega⟩
    by_cases hki : k ≤ i
    · show gd r.2 k = _
      rw [r3.low k hki, hlow k hki]
    · obtain rfl : k = i + 1 := by omega
      obtain ⟨j, h, hj, hq⟩ := f.reach (i + 1) (by omega) (by omega)
      obtain ⟨a, b⟩ := hf' j h hj
      rcases hq with ⟨q1, q2⟩ | ⟨q1, q2⟩
      · obtain rfl : j = i := by omega
        exact a q2
      · exact b q1 (i + 1) q2
  · obtain rfl : i = code.length := by omega
    show Wp ((idx D (code.length : Int)).bind _) _
    rw [gd_idx (by omega), hlow _ (Nat.le_refl _), f.last]
    exact .some rfl

/-- How high the stack stands behind the operands. -/
theorem ops_high {st : List Nat} : ∀ {i : Nat} {l : List Nat}, Ch st i l → ∀ (a : Nat), a ≤ l.length → ∀ k (h : k < (opsL st a i).length), Ch st ((opsL st a i)[k] + 1) (l.take (l.length - a + k + 1)) := by
  intro i l c
  induction c with
  | nil =>
    intro a ha k h
    obtain rfl : a = 0 := by simpa using ha
    simp [opsL] at h
  | @snoc j s l h1 h2 c ih =>
    intro a ha k h
    cases a with
    | zero => simp [opsL] at h
    | succ a =>
      have hg : st.getD (j + 1 - 1) 0 = s := by simp [List.getD, h1]
      have e1 : opsL st (a + 1) (j + 1) = opsL st a s ++ [j] := by rw [opsL, hg]; rfl
      rw [List.length_append, List.length_singleton] at ha ⊢
      have hk : k < a + 1 := by rw [opsL_len] at h; exact h
      have e3 : l.length + 1 - (a + 1) + k + 1 = l.length - a + k + 1 := by omega
      rw [e3]
      by_cases hka : k < a
      · have hk' : k < (opsL st a s).length := by rw [opsL_len]; exact hka
        have : (opsL st (a + 1) (j + 1))[k] = (opsL st a s)[k] := by
          simp only [e1]; rw [List.getElem_append_left hk']
        rw [this, List.take_append_of_le_length (by omega)]
        exact ih a (by omega) k hk'
      · obtain rfl : k = a := by omega
        have : (opsL st (k + 1) (j + 1))[k] = j := by
          simp only [e1]; rw [List.getElem_append_right (by rw [opsL_len]; exact Nat.le_refl _)]; simp [opsL_len]
        rw [this, show l.length - k + k + 1 = (l ++ [s]).length by rw [List.length_append, List.length_singleton]; omega, List.take_length]
        exact .snoc h1 h2 c

/-- Node i may be computed where the stack has d values. -/
def Room (st : List Nat) (i : Nat) (d : Int) : Prop := ∃ l, Ch st (i + 1) l ∧ d + 1 ≤ l.length
theorem Room.le {e : List Ty} {st : List Nat} (w : Whole e st) {i : Nat} {d : Int} (hi : i < e.length) (h : Room st i d) : d + 1 ≤ 12 := by
  obtain ⟨l, c, hd⟩ := h
  obtain ⟨v1, l', v2, v3, v4, v5⟩ := w.val.node i hi
  have := (v2.next v1 v3 v5).uniq c
  rw [← this] at hd
  simp at hd
  omega
theorem Room.op {e : List Ty} {st : List Nat} (w : Whole e st) {i : Nat} {d d' : Int} (hi : i < e.length) (h : Room st i d) {k : Nat} (hk : k < (opsL st (ar e[i].1).toNat i).length) (hd : d' ≤ d + k) : Room st (opsL st (ar e[i].1).toNat i)[k] d' := by
  obtain ⟨l, c, hl⟩ := h
  obtain ⟨v1, l', v2, v3, v4, v5⟩ := w.val.node i hi
  have hu := (v2.next v1 v3 v5).uniq c
  rw [← hu] at hl
  rw [List.length_append, List.length_take, List.length_singleton] at hl
  have hk' : k < (ar e[i].1).toNat := by rw [opsL_len] at hk; exact hk
  refine ⟨_, ops_high v2 _ v3 k hk, ?_⟩
  rw [List.length_take]
  omega

/-- A piece of code with its depths, from b to b' and from depth d to d'. -/
structure Pc (code : List Ty) (F : List Int) (b b' : Nat) (d d' : Int) : Prop where
  le : b ≤ b'
  inn : gd F b = d
  out : gd F b' = d'
  bd : ∀ k, b ≤ k → k ≤ b' → 0 ≤ gd F k ∧ gd F k ≤ 12
  step : ∀ j (h : j < code.length), b ≤ j → j < b' → StepOK code.length F j code[j] ∧ ¬ isLazy code[j].1
  reach : ∀ k, b < k → k ≤ b' → ∃ j, ∃ h : j < code.length, j < k ∧ ((j + 1 = k ∧ (code[j].1 : Int) ≠ 51) ∨ ((50 ≤ (code[j].1 : Int) ∧ (code[j].1 : Int) ≤ 53) ∧ (code[j].2 : Int) = k))
theorem Pc.app {code : List Ty} {F : List Int} {b c c' : Nat} {d d' d'' : Int} (h : Pc code F b c d d') (h' : Pc code F c c' d' d'') : Pc code F b c' d d'' := by
  refine ⟨Nat.le_trans h.le h'.le, h.inn, h'.out, fun k k1 k2 => ?_, fun j hj j1 j2 => ?_, fun k k1 k2 => ?_⟩
  · by_cases hk : k ≤ c
    · exact h.bd k k1 hk
    · exact h'.bd k (by omega) k2
  · by_cases hk : j < c
    · exact h.step j hj j1 hk
    · exact h'.step j hj (by omega) j2
  · by_cases hk : k ≤ c
    · exact h.reach k k1 hk
    · exact h'.reach k (by omega) k2
/-- The code and its depths hold a piece at b. -/
def At (code : List Ty) (F : List Int) (b : Nat) (l : List (Ty × Int)) : Prop := ∀ k (h : k < l.length), code[b + k]? = some l[k].1 ∧ gd F (b + k) = l[k].2
theorem At.left {code : List Ty} {F : List Int} {b : Nat} {l m : List (Ty × Int)} (h : At code F b (l ++ m)) : At code F b l := fun k hk => by
  have := h k (by rw [List.length_append]; omega)
  rw [List.getElem_append_left hk] at this
  exact this
theorem At.right {code : List Ty} {F : List Int} {b : Nat} {l m : List (Ty × Int)} (h : At code F b (l ++ m)) : At code F (b + l.length) m := fun k hk => by
  have := h (l.length + k) (by rw [List.length_append]; omega)
  rw [List.getElem_append_right (by omega)] at this
  simp only [Nat.add_sub_cancel_left] at this
  rw [Nat.add_assoc]
  exact this
theorem At.head {code : List Ty} {F : List Int} {b : Nat} {x : Ty × Int} {m : List (Ty × Int)} (h : At code F b (x :: m)) : code[b]? = some x.1 ∧ gd F b = x.2 := h 0 (by simp)
theorem At.tail {code : List Ty} {F : List Int} {b : Nat} {x : Ty × Int} {m : List (Ty × Int)} (h : At code F b (x :: m)) : At code F (b + 1) m := At.right (l := [x]) h
/-- One instruction that does not jump. -/
theorem Pc.one {code : List Ty} {F : List Int} {b : Nat} {n : Ty} {a : Nat} {d : Int} (hn : code[b]? = some n) (ha : ar n.1 = a) (hlz : ¬ isLazy n.1) (hj : ¬ (50 ≤ (n.1 : Int) ∧ (n.1 : Int) ≤ 53)) (hb : gd F b = d + a) (hb' : gd F (b + 1) = d + 1) (h0 : 0 ≤ d) (h12 : d + 1 ≤ 12) (hda : d + a ≤ 12) : Pc code F b (b + 1) (d + a) (d + 1) := by
  obtain ⟨hl, rfl⟩ := List.getElem?_eq_some_iff.1 hn
  refine ⟨by omega, hb, hb', fun k k1 k2 => ?_, fun j h j1 j2 => ?_, fun k k1 k2 => ?_⟩
  · rcases (show k = b ∨ k = b + 1 by omega) with rfl | rfl
    · omega
    · omega
  · obtain rfl : j = b := by omega
    refine ⟨.inr (.inr ⟨fun h => hj (by rw [h]; decide), fun h => hj ?_, by omega, by omega, by omega, by omega⟩), hlz⟩
    rcases h with h | h | h <;> rw [h] <;> decide
  · obtain rfl : k = b + 1 := by omega
    exact ⟨b, hl, by omega, .inl ⟨rfl, fun h => hj (by rw [h]; decide)⟩⟩

theorem Pc.ins {code : List Ty} {F : List Int} {b : Nat} {n : Ty} {d d' : Int} (hn : code[b]? = some n) (hb : gd F b = d) (hb' : gd F (b + 1) = d') (h : 0 ≤ d ∧ d ≤ 12) (h' : 0 ≤ d' ∧ d' ≤ 12) (hs : StepOK code.length F b n) (hlz : ¬ isLazy n.1) (hr : ∃ j, ∃ h : j < code.length, j < b + 1 ∧ ((j + 1 = b + 1 ∧ (code[j].1 : Int) ≠ 51) ∨ ((50 ≤ (code[j].1 : Int) ∧ (code[j].1 : Int) ≤ 53) ∧ (code[j].2 : Int) = ((b + 1 : Nat) : Int)))) : Pc code F b (b + 1) d d' := by
  obtain ⟨hl, rfl⟩ := List.getElem?_eq_some_iff.1 hn
  refine ⟨by omega, hb, hb', fun k k1 k2 => ?_, fun j h j1 j2 => ?_, fun k k1 k2 => ?_⟩
  · rcases (show k = b ∨ k = b + 1 by omega) with rfl | rfl
    · rw [hb]; exact h
    · rw [hb']; exact h'
  · obtain rfl : j = b := by omega
    exact ⟨hs, hlz⟩
  · obtain rfl : k = b + 1 := by omega
    exact hr
theorem ar_neg {op : Int} (h : 50 ≤ op) : ar op = -1 := by
  unfold ar; rw [if_neg (by omega), if_neg (by omega), if_neg (by omega), if_neg (by omega)]
theorem Pc.nil {code : List Ty} {F : List Int} {b : Nat} {d : Int} (hb : gd F b = d) (h : 0 ≤ d ∧ d ≤ 12) : Pc code F b b d d :=
  ⟨Nat.le_refl _, hb, hb, fun k k1 k2 => by rw [show k = b by omega, hb]; exact h, fun j _ j1 j2 => by omega, fun k k1 k2 => by omega⟩

theorem cgL_pc {code : List Ty} {F : List Int} {g : Nat → Nat → Int → List (Ty × Int)} : ∀ (os : List Nat) (b : Nat) (d : Int), 0 ≤ d → d + os.length ≤ 12 → (∀ (k : Nat) (hk : k < os.length) (b : Nat), At code F b (g os[k] b (d + k)) → gd F (b + (g os[k] b (d + k)).length) = d + k + 1 → b + (g os[k] b (d + k)).length ≤ code.length → Pc code F b (b + (g os[k] b (d + k)).length) (d + k) (d + k + 1)) → At code F b (cgL g os b d) → gd F (b + (cgL g os b d).length) = d + os.length → b + (cgL g os b d).length ≤ code.length → Pc code F b (b + (cgL g os b d).length) d (d + os.length)
  | [], b, d, h0, h12, _, _, ho, _ => by
    simp only [cgL, List.length_nil, Nat.add_zero] at ho h12 ⊢
    simp at ho h12
    have : d + ((0 : Nat) : Int) = d := by omega
    rw [this]
    exact Pc.nil ho ⟨h0, h12⟩
  | o :: os, b, d, h0, h12, hg, hA, ho, hl => by
    rw [cgL] at hA ho hl ⊢
    rw [List.length_append] at ho hl ⊢
    rw [List.length_cons] at ho h12 ⊢
    have hr := cgL_pc os (b + (g o b d).length) (d + 1) (by omega) (by omega) (fun k hk b' => by
      have := hg (k + 1) (by rw [List.length_cons]; omega) b'
      rw [show d + ((k + 1 : Nat) : Int) = d + 1 + (k : Int) by omega] at this
      exact this) hA.right (by rw [Nat.add_assoc, ho]; omega) (by omega)
    have hx := hg 0 (by simp) b
    simp only [List.getElem_cons_zero, show d + ((0 : Nat) : Int) = d by omega] at hx
    have := (hx hA.left hr.inn (by omega)).app hr
    rw [← Nat.add_assoc, show d + ((os.length + 1 : Nat) : Int) = d + 1 + (os.length : Int) by omega]
    exact this

theorem cg_pc {code : List Ty} {F : List Int} {e : List Ty} {st : List Nat} (w : Whole e st) : ∀ (f i b : Nat) (d : Int), i < f → i < e.length → 0 ≤ d → Room st i d → At code F b (cg e st f i b d) → gd F (b + (cg e st f i b d).length) = d + 1 → b + (cg e st f i b d).length ≤ code.length → Pc code F b (b + (cg e st f i b d).length) d (d + 1)
  | 0, _, _, _, h, _, _, _, _, _, _ => by omega
  | f + 1, i, b, d, hf, hi, h0, hroom, hA, ho, hl => by
    have ih := cg_pc (code := code) (F := F) w f
    have h12 := hroom.le w hi
    have hge : e.getD i ((0, 0) : Int × Int) = e[i] := by simp only [List.getD, List.getElem?_eq_getElem hi, Option.getD_some]
    obtain ⟨v1, _⟩ := w.val.node i hi
    have hlt : ∀ o ∈ opsL st (ar e[i].1).toNat i, o < i := fun o ho => (w.val.ops hi o ho).1
    have hop : ∀ k (hk : k < (opsL st (ar e[i].1).toNat i).length) (d' : Int), d' ≤ d + k → Room st (opsL st (ar e[i].1).toNat i)[k] d' := fun k hk d' hd => hroom.op w hi hk hd
    have hlen := opsL_len st (ar e[i].1).toNat i
    rw [cg, hge] at hA ho hl ⊢
    generalize opsL st (ar e[i].1).toNat i = os at *
    by_cases hao : (e[i].1 : Int) = 23 ∨ (e[i].1 : Int) = 24
    · rw [if_pos hao] at hA ho hl ⊢
      have h2 : (ar e[i].1).toNat = 2 := by rcases hao with h | h <;> rw [h] <;> rfl
      obtain ⟨o0, o1, rfl⟩ := len2 (l := os) (by omega)
      have l0 := hlt o0 (by simp)
      have l1 := hlt o1 (by simp)
      have p0 := ih o0 b d (by omega) (by omega) h0 (hop 0 (by simp) d (by omega))
      unfold cgAnd at hA ho hl ⊢
      simp only [List.getD_cons_zero, List.getD_cons_succ] at hA ho hl ⊢
      generalize cg e st f o0 b d = g0 at *
      have p1 := ih o1 (b + g0.length + 1) d (by omega) (by omega) h0 (hop 1 (by simp) d (by omega))
      generalize cg e st f o1 (b + g0.length + 1) d = g1 at *
      rw [List.length_append, List.length_cons] at ho hl ⊢
      have a0 := hA.left
      have a1 := hA.right.head
      have a2 := hA.right.tail
      have eE : b + (g0.length + (g1.length + 1)) = b + g0.length + 1 + g1.length := by omega
      rw [eE] at ho hl ⊢
      have q1 := p1 a2 ho (by omega)
      have q0 := p0 a0 a1.2 (by omega)
      have hcl : b + g0.length < code.length := by omega
      have hx : (if (e[i].1 : Int) = 24 then (53 : Int) else 52) = 53 ∨ (if (e[i].1 : Int) = 24 then (53 : Int) else 52) = 52 := by split <;> simp
      generalize (if (e[i].1 : Int) = 24 then (53 : Int) else 52) = x at *
      obtain ⟨a11, a12⟩ := a1
      dsimp only at a11 a12
      have hc : code[b + g0.length] = ((x, ((b + g0.length + 1 + g1.length : Nat) : Int)) : Int × Int) := (List.getElem?_eq_some_iff.1 a11).2
      refine q0.app (Pc.app (Pc.ins a11 a12 q1.inn ⟨by omega, by omega⟩ ⟨by omega, by omega⟩ ?_ ?_ ?_) q1)
      · refine .inr (.inl ⟨?_, by omega, by rw [q1.inn, a12]; omega, b + g0.length + 1 + g1.length, rfl, by omega, by omega, ?_⟩)
        · show x = 50 ∨ x = 52 ∨ x = 53
          omega
        · show gd F (b + g0.length + 1 + g1.length) = if x = 50 then _ else _
          rw [if_neg (by omega), ho, a12]
      · show ¬ isLazy x
        unfold isLazy; omega
      · refine ⟨b + g0.length, hcl, by omega, .inl ⟨rfl, ?_⟩⟩
        rw [hc]
        show x ≠ 51
        omega
    rw [if_neg hao] at hA ho hl ⊢
    by_cases hif : (e[i].1 : Int) = 26
    · rw [if_pos hif] at hA ho hl ⊢
      have h3 : (ar e[i].1).toNat = 3 := by rw [hif]; rfl
      obtain ⟨o0, o1, o2, rfl⟩ := len3 (l := os) (by omega)
      have l0 := hlt o0 (by simp)
      have l1 := hlt o1 (by simp)
      have l2 := hlt o2 (by simp)
      have p0 := ih o0 b d (by omega) (by omega) h0 (hop 0 (by simp) d (by omega))
      unfold cgIf at hA ho hl ⊢
      generalize hE : cgElse (cg e st f) [o0, o1, o2] b d = E at *
      unfold cgElse at hE
      simp only [List.getD_cons_zero, List.getD_cons_succ] at hA ho hl hE ⊢
      generalize cg e st f o0 b d = g0 at *
      have p1 := ih o1 (b + g0.length + 1) d (by omega) (by omega) h0 (hop 1 (by simp) d (by omega))
      generalize cg e st f o1 (b + g0.length + 1) d = g1 at *
      have p2 := ih o2 E d (by omega) (by omega) h0 (hop 2 (by simp) d (by omega))
      generalize cg e st f o2 E d = g2 at *
      rw [List.length_append, List.length_cons, List.length_append, List.length_cons] at ho hl ⊢
      have eE : b + (g0.length + (g1.length + (g2.length + 1) + 1)) = E + g2.length := by omega
      rw [eE] at ho hl ⊢
      have a0 := hA.left
      obtain ⟨a11, a12⟩ := hA.right.head
      have a2 := hA.right.tail
      have a3 := a2.left
      obtain ⟨a41, a42⟩ := a2.right.head
      have a5 := a2.right.tail
      rw [hE] at a5
      dsimp only at a11 a12 a41 a42
      have q2 := p2 a5 ho hl
      have q1 := p1 a3 a42 (by omega)
      have q0 := p0 a0 a12 (by omega)
      have hcl : b + g0.length < code.length := by omega
      have hcl1 : b + g0.length + 1 + g1.length < code.length := by omega
      have hc : code[b + g0.length] = ((50, (E : Int)) : Int × Int) := (List.getElem?_eq_some_iff.1 a11).2
      have j1 : Pc code F (b + g0.length) (b + g0.length + 1) (d + 1) d := by
        refine Pc.ins a11 a12 q1.inn ⟨by omega, by omega⟩ ⟨by omega, by omega⟩ ?_ ?_ ?_
        · refine .inr (.inl ⟨.inl rfl, by omega, by rw [q1.inn, a12]; omega, E, rfl, by omega, by omega, ?_⟩)
          show gd F E = if (50 : Int) = 50 then _ else _
          rw [if_pos rfl, q2.inn, a12]; omega
        · show ¬ isLazy (50 : Int)
          unfold isLazy; omega
        · refine ⟨b + g0.length, hcl, by omega, .inl ⟨rfl, ?_⟩⟩
          rw [hc]
          show (50 : Int) ≠ 51
          decide
      have j2 : Pc code F (b + g0.length + 1 + g1.length) (b + g0.length + 1 + g1.length + 1) (d + 1) d := by
        refine Pc.ins a41 a42 (by rw [hE]; exact q2.inn) ⟨by omega, by omega⟩ ⟨by omega, by omega⟩ ?_ ?_ ?_
        · refine .inl ⟨rfl, E + g2.length, rfl, by omega, by omega, ?_⟩
          rw [ho, a42]
        · show ¬ isLazy (51 : Int)
          unfold isLazy; omega
        · refine ⟨b + g0.length, hcl, by omega, .inr ⟨?_, ?_⟩⟩
          · rw [hc]; exact ⟨(by decide : (50 : Int) ≤ 50), (by decide : (50 : Int) ≤ 53)⟩
          · rw [hc, hE]
      rw [hE] at j2
      exact q0.app (j1.app (q1.app (j2.app q2)))
    rw [if_neg hif] at hA ho hl ⊢
    rw [List.length_append, List.length_singleton] at ho hl ⊢
    obtain ⟨a, ha⟩ : ∃ a : Nat, ar e[i].1 = a := ⟨(ar e[i].1).toNat, by omega⟩
    have han : (ar e[i].1).toNat = a := by omega
    rw [han] at hA hlen
    have hj : ¬ (50 ≤ (e[i].1 : Int) ∧ (e[i].1 : Int) ≤ 53) := by
      intro h
      have := ar_neg h.1
      omega
    obtain ⟨b1, b2⟩ := hA.right.head
    dsimp only at b1 b2
    have hda : d + a ≤ 12 := by
      by_cases ha0 : a = 0
      · omega
      · have hk : a - 1 < os.length := by omega
        have hm := List.getElem_mem hk
        have := (hop (a - 1) hk (d + ((a - 1 : Nat) : Int)) (by omega)).le w (by have := hlt _ hm; omega)
        omega
    rw [← Nat.add_assoc] at ho hl ⊢
    have hq := cgL_pc (code := code) (F := F) (g := cg e st f) os b d h0 (by omega) (fun k hk b' hA' ho' hl' => by
      have hm := List.getElem_mem hk
      have hlk := hlt _ hm
      exact ih os[k] b' (d + k) (by omega) (by omega) (by omega) (hop k hk _ (Int.le_refl _)) hA' ho' hl') hA.left (by rw [b2, hlen]) (by omega)
    rw [hlen] at hq
    have hlz : ¬ isLazy e[i].1 := by
      unfold isLazy
      intro h
      rcases h with h | h | h
      · exact hao (.inl h)
      · exact hao (.inr h)
      · exact hif h
    exact hq.app (Pc.one b1 ha hlz hj b2 ho h0 (by omega) hda)

/-- The code of a whole expression, and its depths. -/
def code0 (e : List Ty) (st : List Nat) : List (Ty × Int) := cg e st e.length (e.length - 1) 0 0
def deps (e : List Ty) (st : List Nat) : List Int := (code0 e st).map Prod.snd ++ [1]
theorem code0_ok {e : List Ty} {st : List Nat} (w : Whole e st) : FOK (ins (code0 e st)) (deps e st) := by
  have hp : 0 < e.length := List.length_pos_iff.2 w.ne
  have hle := w.le
  have h96 : (code0 e st).length ≤ 96 := cg_96 w (by omega)
  have hlc : (ins (code0 e st)).length = (code0 e st).length := List.length_map ..
  have hld : (deps e st).length = (code0 e st).length + 1 := by unfold deps; simp
  have hA : At (ins (code0 e st)) (deps e st) 0 (code0 e st) := fun k hk => by
    rw [Nat.zero_add]
    refine ⟨by simp [ins, hk], ?_⟩
    unfold gd List.getD deps
    rw [List.getElem?_append_left (by simpa using hk)]
    simp [hk]
  have ho : gd (deps e st) (0 + (code0 e st).length) = 0 + 1 := by
    rw [Nat.zero_add]
    unfold gd List.getD deps
    rw [List.getElem?_append_right (by simp)]
    simp
  have room : Room st (e.length - 1) 0 := by
    obtain ⟨v1, l, v2, v3, v4, v5⟩ := w.val.node (e.length - 1) (by omega)
    exact ⟨_, v2.next v1 v3 v5, by simp; omega⟩
  have p : Pc (ins (code0 e st)) (deps e st) 0 (0 + (code0 e st).length) 0 (0 + 1) := cg_pc w e.length (e.length - 1) 0 0 (by omega) (by omega) (by omega) room hA ho (by rw [hlc]; exact Nat.le_of_eq (Nat.zero_add _))
  rw [Nat.zero_add] at p
  have hne : 0 < (code0 e st).length := by
    rcases Nat.eq_zero_or_pos (code0 e st).length with h | h
    · have a := p.inn
      have b := p.out
      rw [h] at b
      omega
    · exact h
  rw [← hlc] at p
  exact ⟨by omega, by omega, by omega, fun k hk => p.bd k (Nat.zero_le _) hk, p.inn, p.out, fun j h => p.step j h (Nat.zero_le _) h, fun k k1 k2 => p.reach k k1 k2⟩
end L
end Go.Proofs.YtomgmnkalommeaaGreatDoor
