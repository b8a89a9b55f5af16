/- Slices whose elements own slices: taken out, put back, changed. -/
import Derived.Test.YtjeeligfdpociaaGreatEffs5
namespace Go.Proofs.YtjeeligfdpociaaGreat
open Go Go.RowKit

/-- A slice that was within another one, as an object of its own. -/
def mkD (T : TypeId) : (e : DR) → List e.row.den → Th
  | .leaf r, y => .own T r y
  | .sl T' e, y => .deep T (.sl T' e) y none
  | .pair a b, y => .deep T (.pair a b) y none

section
variable {P : Program} {ρ : Nat → Value} {w w' : World} {H H' : Hist} {F F' : Nat → Prop} {U : Nat → Prop} {ob : Nat → Option (Nat × Th)} {n : Nat} {R : Type}
variable {op : Op} {ty : TypeId} {pos : String} {aft : Array Edge} {d : Nat}

theorem mkD_base (T : TypeId) (e : DR) (y : List e.row.den) : (mkD T e y).base = mkD T e y := by cases e <;> rfl
theorem mkD_ok {T : TypeId} {e : DR} {u : Value} {y : List e.row.den} {A : Nat → Prop} (h : DEl F w (.sl T e) u y A) : ThOK H F w A u (mkD T e y) ∧ (∀ k, fp A u (mkD T e y) k → A k) ∧ u.oneCell' = true := by
  obtain ⟨lh, Ss, h1, h2, h3, h4⟩ := h
  have hone := h1.one
  cases e with
  | leaf r =>
    have hl : lh = y := List.ext_getElem h2 fun i a b => (h3 i a b).1
    subst hl
    exact ⟨h1, fun k hk => h4.mine k hk, hone⟩
  | sl T' e => exact ⟨⟨lh, Ss, h1, h2, h3, h4⟩, fun k hk => hk, hone⟩
  | pair a b => exact ⟨⟨lh, Ss, h1, h2, h3, h4⟩, fun k hk => hk, hone⟩
/-- An object as a part again. -/
theorem mkD_back {T : TypeId} {e : DR} {u : Value} {y : List e.row.den} {A : Nat → Prop} (h : ThOK H F w A u (mkD T e y)) : DEl F w (.sl T e) u y (fun k => fp A u (mkD T e y) k) := by
  cases e with
  | leaf r =>
    have h' : OwnM F w T r u y := h
    refine ⟨y, fun _ _ => False, h', rfl, fun i a b => ⟨rfl, fun _ h => h⟩, ⟨fun k => ?_, fun _ _ _ _ _ _ h => h.elim, fun _ _ _ h => h.elim⟩⟩
    show mine u k ↔ _
    simp
  | sl T' e => exact h
  | pair a b => exact h

theorem leaf_of {d : DR} {r : Row} (q : DPath d (.leaf r)) {x' : d.low.den} {x : d.row.den} {S : Nat → Prop} (h : DEl F w d x' x S) : q.lo.get x' = q.hi.get x := by
  obtain ⟨A, B, h1, _⟩ := h.out q
  exact h1.1
theorem leaf_out : {d e : DR} → {T : TypeId} → {r : Row} → (p : DPath d (.sl T e)) → (q : DPath d (.leaf r)) → {x' : d.low.den} → {x : d.row.den} → {S : Nat → Prop} → DOut F w p x' x S → q.lo.get x' = q.hi.get x
  | _, _, _, _, .fst p, .fst q, _, _, _, h => by obtain ⟨A, B, h1, _⟩ := h; exact leaf_out p q h1
  | _, _, _, _, .fst p, .snd q, _, _, _, h => by obtain ⟨A, B, _, h2, _⟩ := h; exact leaf_of q h2
  | _, _, _, _, .snd p, .fst q, _, _, _, h => by obtain ⟨A, B, h1, _⟩ := h; exact leaf_of q h1
  | _, _, _, _, .snd p, .snd q, _, _, _, h => by obtain ⟨A, B, _, h2, _⟩ := h; exact leaf_out p q h2
theorem leaf_rel {d : DR} {h : Option Hole} {i : Nat} {x' : d.low.den} {x : d.row.den} {S : Nat → Prop} {r : Row} (q : DPath d (.leaf r)) (hr : HRel H F w d h i x' x S) : q.lo.get x' = q.hi.get x := by
  cases h with
  | none => exact leaf_of q hr
  | some h =>
    by_cases hi : h.i = (i : Int)
    · obtain ⟨T', e, p, _, h2, _⟩ := hr.2 hi
      exact leaf_out p q h2
    · exact leaf_of q (hr.1 hi)

theorem leaf_put {d : DR} {r : Row} (q : DPath d (.leaf r)) {x' : d.low.den} {x : d.row.den} {S : Nat → Prop} (y : r.den) (h : DEl F w d x' x S) : DEl F w d (q.lo.set x' y) (q.hi.set x y) S := by
  obtain ⟨A, B, h1, h2, h3⟩ := h.out q
  exact h2.put q (y' := y) (A := A) ⟨rfl, h1.2⟩ h3
theorem leaf_putO : {d e : DR} → {T : TypeId} → {r : Row} → (p : DPath d (.sl T e)) → (q : DPath d (.leaf r)) → {x' : d.low.den} → {x : d.row.den} → {S : Nat → Prop} → (y : r.den) → DOut F w p x' x S → DOut F w p (q.lo.set x' y) (q.hi.set x y) S ∧ p.lo.get (q.lo.set x' y) = p.lo.get x'
  | _, _, _, _, .fst p, .fst q, _, _, _, y, h => by
    obtain ⟨A, B, h1, h2, h3⟩ := h
    obtain ⟨g1, g2⟩ := leaf_putO p q y h1
    exact ⟨⟨A, B, g1, h2, h3⟩, g2⟩
  | _, _, _, _, .fst p, .snd q, _, _, _, y, h => by
    obtain ⟨A, B, h1, h2, h3⟩ := h
    exact ⟨⟨A, B, h1, leaf_put q y h2, h3⟩, rfl⟩
  | _, _, _, _, .snd p, .fst q, _, _, _, y, h => by
    obtain ⟨A, B, h1, h2, h3⟩ := h
    exact ⟨⟨A, B, leaf_put q y h1, h2, h3⟩, rfl⟩
  | _, _, _, _, .snd p, .snd q, _, _, _, y, h => by
    obtain ⟨A, B, h1, h2, h3⟩ := h
    obtain ⟨g1, g2⟩ := leaf_putO p q y h2
    exact ⟨⟨A, B, h1, g1, h3⟩, g2⟩
theorem leaf_putR {d : DR} {h : Option Hole} {i : Nat} {x' : d.low.den} {x : d.row.den} {S : Nat → Prop} {r : Row} (q : DPath d (.leaf r)) (y : r.den) (hr : HRel H F w d h i x' x S) : HRel H F w d h i (q.lo.set x' y) (q.hi.set x y) S := by
  cases h with
  | none => exact leaf_put q y hr
  | some h =>
    refine ⟨fun hi => leaf_put q y (hr.1 hi), fun hi => ?_⟩
    obtain ⟨T', e, p, h1, h2, h3⟩ := hr.2 hi
    obtain ⟨g1, g2⟩ := leaf_putO p q y h2
    exact ⟨T', e, p, h1, g1, by rw [g2]; exact h3⟩

/-- What is deep, as its block lies in memory. -/
theorem ObSat.low (hs : ObSat U H F w ob n) {o s : Nat} {T : TypeId} {dr : DR} {l : List dr.row.den} {h : Option Hole} (ho : ob o = some (s, .deep T dr l h)) {v : Value} (hv : H.val o = some v) :
    ∃ (lh : List dr.low.den) (Ss : Nat → Nat → Prop), Own 0 F w T dr.low v lh ∧ lh.length = l.length ∧ (∀ i (h1 : i < lh.length) (h2 : i < l.length), HRel H F w dr h i lh[i] l[i] (Ss i)) ∧ Parts Ss l.length (mine v) (H.sub s) := by
  obtain ⟨v', hv', hin⟩ := hs.obj _ _ _ ho
  rw [hv] at hv'
  obtain rfl := Option.some.inj hv'
  obtain ⟨lh, Ss, h1, h2, h3, h4⟩ := hin.ok
  exact ⟨lh, Ss, ⟨fun k hk => hin.no k (h4.mine k hk), h1⟩, h2, h3, h4⟩

theorem Path.get_set : {r s : Row} → (p : Path r s) → (x : r.den) → (y : s.den) → p.get (p.set x y) = y
  | _, _, .here, _, _ => rfl
  | _, _, .fst p, x, y => Path.get_set p x.1 y
  | _, _, .snd p, x, y => Path.get_set p x.2 y
theorem DOut.setLo : {d e : DR} → (p : DPath d e) → {x' : d.low.den} → {x : d.row.den} → {S : Nat → Prop} → (y' : e.low.den) → DOut F w p x' x S → DOut F w p (p.lo.set x' y') x S
  | _, _, .here, _, _, _, _, h => h
  | _, _, .fst p, _, _, _, y', h => by
    obtain ⟨A, B, h1, h2, h3⟩ := h
    exact ⟨A, B, h1.setLo p y', h2, h3⟩
  | _, _, .snd p, _, _, _, y', h => by
    obtain ⟨A, B, h1, h2, h3⟩ := h
    exact ⟨A, B, h1, h2.setLo p y', h3⟩

/-- The whole of the blocks. -/
def sumP (m : Nat → Prop) (Ss : Nat → Nat → Prop) (c : Nat) (k : Nat) : Prop := m k ∨ ∃ i, i < c ∧ Ss i k

/-- One element's blocks become fewer. -/
theorem Parts.less {Ss : Nat → Nat → Prop} {c : Nat} {m S : Nat → Prop} (h : Parts Ss c m S) (j : Nat) {B : Nat → Prop} (hB : ∀ k, B k → Ss j k) : Parts (fun i => if i = j then B else Ss i) c m (sumP m (fun i => if i = j then B else Ss i) c) := by
  have sub : ∀ i k, (if i = j then B else Ss i) k → Ss i k := by
    intro i k hk
    by_cases e : i = j
    · subst e; rw [if_pos rfl] at hk; exact hB k hk
    · rwa [if_neg e] at hk
  exact ⟨fun k => Iff.rfl, fun i i' k h1 h2 hne h3 h4 => h.two i i' k h1 h2 hne (sub i k h3) (sub i' k h4), fun i k h1 h2 => h.out i k h1 (sub i k h2)⟩
theorem Parts.less_sub {Ss : Nat → Nat → Prop} {c : Nat} {m S : Nat → Prop} (h : Parts Ss c m S) (j : Nat) {B : Nat → Prop} (hB : ∀ k, B k → Ss j k) : ∀ k, sumP m (fun i => if i = j then B else Ss i) c k → S k := by
  rintro k (hk | ⟨i, hi, hk⟩)
  · exact h.mine k hk
  · by_cases e : i = j
    · subst e; rw [if_pos rfl] at hk; exact h.part hi k (hB k hk)
    · rw [if_neg e] at hk; exact h.part hi k hk

theorem rel_set {α β : Type} {rel : Nat → α → β → (Nat → Prop) → Prop} {lh : List α} {l : List β} {Ss : Nat → Nat → Prop} {j : Nat} {x' : α} {x : β} {B : Nat → Prop} (h : ∀ i (h1 : i < lh.length) (h2 : i < l.length), i ≠ j → rel i lh[i] l[i] (Ss i)) (hj : rel j x' x B) :
    ∀ i (h1 : i < (lh.set j x').length) (h2 : i < (l.set j x).length), rel i (lh.set j x')[i] (l.set j x)[i] ((fun i => if i = j then B else Ss i) i) := by
  intro i h1 h2
  by_cases e : i = j
  · subst e
    simp only [List.getElem_set_self, if_true]
    exact hj
  · simp only [List.getElem_set_ne (Ne.symm e), if_neg e]
    exact h i (by simpa using h1) (by simpa using h2) e

theorem Hist.le_deep {H : Hist} {n : Nat} {S : Nat → Prop} {t : Th} (h : H.con n = none) : H.le ((H.setSub n S).setCon n t) := (Hist.le_setSub h).trans (Hist.le_setCon h)

/-- An object that is made anew at its own place. -/
theorem Post.remake (hs : ObSat U H F w ob n) {o s : Nat} {t t' : Th} {v0 : Value} (ho : ob o = some (s, t)) (hv : H.val o = some v0) (hb : t'.base = t') {eat : List Nat} (hoe : o ∈ eat) (S' : Nat → Prop) (hfp : ∀ k, fp S' v0 t' k → eaten H ob eat k) {D : Desc} {v : Value}
    (hext : Ext (eaten H ob eat) w w') (hok : ThOK ((H.setSub n S').setCon n t') F w' S' v0 t') (hd : DescOK ((H.setSub n S').setCon n t') F w' D v) : PostE H F w ob n { dst := D, eat := eat, make := [(o, (n, t'))] } v w' := by
  obtain ⟨v1, hv1, hin⟩ := hs.obj _ _ _ ho
  rw [hv] at hv1
  obtain rfl := Option.some.inj hv1
  have hf := hs.fresh n (Nat.le_refl _) (by omega)
  have hsub : ((H.setSub n S').setCon n t').sub n = S' := by simp [Hist.setCon, Hist.setSub]
  refine ⟨(H.setSub n S').setCon n t', F, ⟨Hist.le_deep hf.2, hext, fun _ h => h, fun _ h => .inl h, fun b hb => Nat.lt_of_lt_of_le (hs.lt b hb) hext.size⟩, fun m hm => ?_, hd, ⟨fun o' s' q hq => ?_, fun o1 o2 s1 s2 q1 q2 u1 u2 hne h1 h2 => ?_⟩, fun o' h => ?_⟩
  · refine ⟨id, fun h => ?_⟩
    simp [Hist.setCon, Hist.setSub, show m ≠ n from by omega, h]
  · obtain ⟨rfl, e⟩ := find_one hq
    obtain ⟨rfl, rfl⟩ := Prod.mk.inj e
    refine ⟨v0, hv, hin.one, by simp [Hist.setCon, hb], by rw [hsub]; exact hok, fun k hk => ?_⟩
    rw [hsub] at hk
    have := hfp k hk
    exact ⟨hs.eaten_no k this, Nat.lt_of_lt_of_le (hs.eaten_lt k this) hext.size, .inr this⟩
  · exact absurd ((find_one h1).1.trans (find_one h2).1.symm) hne
  · left
    obtain ⟨y, hy⟩ := Option.isSome_iff_exists.1 h
    rw [(find_one hy).1]
    exact hoe

/-! ## Loads -/
def eLoadD (T : Tabs P) (ob : Nat → Option (Nat × Th)) (n : Nat) (t : TypeId) (D : Desc) (k : Eff → Option R) : Option R :=
  match find T.und t with
  | none => none
  | some kk => match D with
    | .dlm o d0 i p off => match ob o with
      | some (_, .deep T0 dr l h) => bif d0.beq dr then (match dr.path p with
        | some ⟨.leaf r, q⟩ => bif Nat.beq q.lo.off off && sizeOK T t kk r.size then (idx l i).bind fun x => k { dst := .val (aggK kk) (.leaf r (q.hi.get x)) } else none
        | some ⟨.sl T' e', q⟩ => bif Nat.beq q.lo.off off && sizeOK T t kk 1 && !aggK kk then (match h with
            | none => (idx l i).bind fun x => k { dst := .val false (.own n), eat := [o], make := [(o, (n, .deep T0 dr l (some ⟨i, p, n, n + 1⟩))), (n, (n + 1, mkD T' e' (q.hi.get x)))] }
            | some hh => bif pathBeq hh.p p then (if decide (hh.i = i) = true then (idx l i).bind fun _ => k { dst := .val false (.own hh.o) } else none) else none) else none
        | _ => none) else none
      | _ => none
    | _ => none

/-- A slice within, taken out as an object of its own. -/
theorem detach_post (hs : ObSat U H F w ob n) {o s : Nat} {T0 T' : TypeId} {dr e' : DR} {l : List dr.row.den} {i : Int} {p : List Bool} {q : DPath dr (.sl T' e')} (hq : dr.path p = some ⟨_, q⟩) (hob : ob o = some (s, .deep T0 dr l none)) {v : Value} (hv : H.val o = some v)
    {j : Nat} (hij : i = (j : Nat)) (hj : j < l.length) {lh : List dr.low.den} {Ss : Nat → Nat → Prop} (hm : OwnM F w T0 dr.low v lh) (hlen : lh.length = l.length) (hrel : ∀ i (h1 : i < lh.length) (h2 : i < l.length), HRel H F w dr none i lh[i] l[i] (Ss i)) (hparts : Parts Ss l.length (mine v) (H.sub s)) :
    PostE H F w ob n { dst := .val false (.own n), eat := [o], make := [(o, (n, .deep T0 dr l (some ⟨i, p, n, n + 1⟩))), (n, (n + 1, mkD T' e' (q.hi.get l[j])))] } (q.lo.get (lh[j]'(by omega))) w := by
  have hj' : j < lh.length := by omega
  obtain ⟨v1, hv1, hin⟩ := hs.obj _ _ _ hob
  rw [hv] at hv1
  obtain rfl := Option.some.inj hv1
  obtain ⟨A, B, hA, hB, h2⟩ := DEl.out q (hrel j hj' hj)
  obtain ⟨_, m2, m3⟩ := mkD_ok (H := H) hA
  have hBs : ∀ k, B k → Ss j k := h2.right
  obtain ⟨f1, f2⟩ := hs.fresh n (Nat.le_refl _) (by omega)
  obtain ⟨f3, f4⟩ := hs.fresh (n + 1) (by omega) (by omega)
  have hno : o ≠ n := fun e => by rw [e, f1] at hv; cases hv
  generalize ht1 : Th.deep T0 dr l (some ⟨i, p, n, n + 1⟩) = t1
  generalize ht2 : mkD T' e' (q.hi.get l[j]) = t2
  generalize hu : q.lo.get lh[j] = u
  generalize hSo : sumP (mine v) (fun i => if i = j then B else Ss i) l.length = So
  have hSoS : ∀ k, So k → H.sub s k := by rw [← hSo]; exact hparts.less_sub j hBs
  have hAS : ∀ k, A k → H.sub s k := fun k hk => hparts.part hj k (h2.left k hk)
  have hAo : ∀ k, So k → ¬ A k := by
    rw [← hSo]
    rintro k (hk | ⟨i', hi', hk⟩) ha
    · exact hparts.out j k hj (h2.left k ha) hk
    · by_cases e : i' = j
      · subst e; rw [if_pos rfl] at hk; exact h2.off k ha hk
      · rw [if_neg e] at hk; exact hparts.two i' j k hi' hj e hk (h2.left k ha)
  let H1 : Hist := ⟨fun m => if m = n then some u else H.val m, fun m => if m = n then some t1 else if m = n + 1 then some t2 else H.con m, fun m => if m = n then So else if m = n + 1 then A else H.sub m⟩
  have hle : H.le H1 := by
    refine ⟨fun o v ho => ?_, fun s t hst => ?_, fun s t hst => ?_⟩
    · have : o ≠ n := fun e => by rw [e, f1] at ho; cases ho
      simp [H1, this, ho]
    · have a1 : s ≠ n := fun e => by rw [e, f2] at hst; cases hst
      have a2 : s ≠ n + 1 := fun e => by rw [e, f4] at hst; cases hst
      simp [H1, a1, a2, hst]
    · have a1 : s ≠ n := fun e => by rw [e, f2] at hst; cases hst
      have a2 : s ≠ n + 1 := fun e => by rw [e, f4] at hst; cases hst
      simp [H1, a1, a2]
  have hun : H1.val n = some u := by simp [H1]
  have heat : ∀ k, H.sub s k → eaten H ob [o] k := fun k hk => ⟨o, by simp, s, _, v, hob, hv, hk⟩
  have hone : u.oneCell' = true := by rw [← hu]; exact m3
  refine ⟨H1, F, ⟨hle, ⟨rfl, rfl, rfl, Nat.le_refl _, fun _ _ _ => rfl⟩, fun _ h => h, fun _ h => .inl h, hs.lt⟩, fun m hm => ?_, own_dst hun hone, ⟨fun o' s' t hf => ?_, fun o1 o2 s1 s2 q1 q2 u1 u2 hne g1 g2 e1 e2 k hk hk' => ?_⟩, fun o' ho' => ?_⟩
  · have a1 : m ≠ n := by omega
    have a2 : m ≠ n + 1 := by omega
    simp [H1, a1, a2]
  · rw [find_cons] at hf
    split at hf
    · rename_i e
      subst e
      simp only [Option.some.injEq, Prod.mk.injEq] at hf
      obtain ⟨rfl, rfl⟩ := hf
      have hsn : H1.sub n = So := by simp [H1]
      refine ⟨v, hle.val _ _ hv, hin.one, ?_, ?_, fun k hk => ?_⟩
      · rw [← ht1]; simp [H1, Th.base, ht1]
      · rw [hsn, ← ht1, ← hSo]
        refine ⟨lh, _, hm, hlen, fun i' a b => ?_, hparts.less j hBs⟩
        have hr : DEl F w dr lh[i'] l[i'] (Ss i') := hrel i' a b
        refine ⟨fun hi => ?_, fun hi => ?_⟩
        · have : i' ≠ j := fun e => hi (by subst e; exact hij)
          show DEl F w dr lh[i'] l[i'] (if i' = j then B else Ss i')
          rw [if_neg this]
          exact hr
        · have hi : i = (i' : Int) := hi
          obtain rfl : i' = j := by omega
          refine ⟨T', e', q, hq, ?_, ?_⟩
          · show DOut F w q lh[i'] l[i'] (if i' = i' then B else Ss i')
            rw [if_pos rfl]
            exact hB
          · rw [hu]; exact hun
      · rw [hsn, ← ht1] at hk
        have hk : So k := hk
        have := hSoS k hk
        exact ⟨hin.no k this, hin.lt k this, .inr (heat k this)⟩
    · obtain ⟨e0, e⟩ := find_one hf
      obtain ⟨rfl, rfl⟩ := Prod.mk.inj e
      rw [e0]
      have hsn : H1.sub (n + 1) = A := by simp [H1]
      obtain ⟨m1, m2', _⟩ := mkD_ok (H := H1) hA
      rw [ht2, hu] at m1 m2'
      refine ⟨u, hun, hone, ?_, by rw [hsn]; exact m1, fun k hk => ?_⟩
      · rw [← ht2, mkD_base, ht2]; simp [H1]
      · rw [hsn] at hk
        have := hAS k (m2' k hk)
        exact ⟨hin.no k this, hin.lt k this, .inr (heat k this)⟩
  · have key : ∀ {k}, So k → A k → False := fun a b => hAo _ a b
    have hfA : ∀ k, fp A u t2 k → A k := by rw [← ht2, ← hu]; exact m2
    have hs1 : H1.sub n = So := by simp [H1]
    have hs2 : H1.sub (n + 1) = A := by simp [H1]
    have two : ∀ {o' s' t'}, find [(o, (n, t1)), (n, (n + 1, t2))] o' = some (s', t') → (o' = o ∧ s' = n ∧ t' = t1) ∨ (o' = n ∧ s' = n + 1 ∧ t' = t2) := by
      intro o' s' t' hf
      rw [find_cons] at hf
      split at hf
      · rename_i e
        simp only [Option.some.injEq, Prod.mk.injEq] at hf
        exact .inl ⟨e.symm, hf.1.symm, hf.2.symm⟩
      · obtain ⟨e1, e⟩ := find_one hf
        obtain ⟨e2, e3⟩ := Prod.mk.inj e
        exact .inr ⟨e1, e2, e3⟩
    rcases two g1 with ⟨rfl, rfl, rfl⟩ | ⟨rfl, rfl, rfl⟩ <;> rcases two g2 with ⟨rfl, rfl, rfl⟩ | ⟨rfl, rfl, rfl⟩
    · exact hne rfl
    · rw [hs1, ← ht1] at hk
      rw [hs2] at hk'
      rw [hun] at e2
      obtain rfl := Option.some.inj e2
      exact key (show So k from hk) (hfA k hk')
    · rw [hs1, ← ht1] at hk'
      rw [hs2] at hk
      rw [hun] at e1
      obtain rfl := Option.some.inj e1
      exact key (show So k from hk') (hfA k hk)
    · exact hne rfl
  · obtain ⟨y, hy⟩ := Option.isSome_iff_exists.1 ho'
    rw [find_cons] at hy
    split at hy
    · rename_i e; exact .inl (by rw [← e]; simp)
    · exact .inr (by rw [(find_one hy).1]; exact Nat.le_refl _)

theorem idx_low {α β : Type} {l : List α} {lh : List β} (h : lh.length = l.length) {i : Int} {x : α} (hi : idx l i = some x) : ∃ j, i = (j : Nat) ∧ ∃ (h1 : j < lh.length) (h2 : j < l.length), x = l[j] ∧ idx lh i = some lh[j] := by
  obtain ⟨j, hj, hlt, rfl⟩ := idx_some hi
  refine ⟨j, hj, by omega, hlt, rfl, ?_⟩
  subst hj
  have hlt' : j < lh.length := by omega
  simp [idx, hlt']

theorem eLoadD_ok (T : Tabs P) {t : TypeId} {D : Desc} {x : Operand} {k : Eff → Option R} {q : R} (h : eLoadD T ob n t D k = some q) (hs : ObSat U H F w ob n) (hx : DescOK H F w D (ev ρ x)) :
    ∃ e, k e = some q ∧ Says P U H F w ρ ob n ⟨some d, .load t x, ty, pos, aft, none⟩ e := by
  unfold eLoadD at h
  split at h
  · cases h
  rename_i kk hu
  split at h
  case h_2 => cases h
  rename_i o d0 i p off
  split at h
  case h_2 => cases h
  rename_i s T0 dr l hh hob
  obtain ⟨hd, h'⟩ := bif_eq h
  clear h
  obtain rfl := DR.eq_of_beq hd
  obtain ⟨g, o0, qq, m, cap, e1, e2, e5⟩ := hx
  obtain ⟨lh, Ss, hown, hlen, hrel, hparts⟩ := hs.low hob e1
  split at h'
  · rename_i r pth hpth
    obtain ⟨h1, h2⟩ := bif_eq h'
    obtain ⟨h1, h3⟩ := and2 h1
    obtain rfl := beq_true h1
    obtain ⟨a, ha, hk⟩ := bind_some h2
    obtain ⟨j, hj, g1, g2, rfl, hidx⟩ := idx_low hlen ha
    have hat := (hown.at rfl e2 hidx).path pth.lo _ rfl
    rw [leaf_rel pth (hrel j g1 g2)] at hat
    obtain ⟨es, hl, hce, hr⟩ := hat
    exact ⟨_, hk, load_says T hu e5 hs (s := .leaf r _) hr hce (sizeOK_ok T h3)⟩
  · rename_i T' e' pth hpth
    obtain ⟨h1, h2⟩ := bif_eq h'
    obtain ⟨h1, h4⟩ := and2 h1
    obtain ⟨h1, h3⟩ := and2 h1
    obtain rfl := beq_true h1
    have hagg : aggK kk = false := by simpa using h4
    obtain ⟨dd, hd1, hd2⟩ := (T.und_ok _ _ hu).agg
    have run : ∀ {j : Nat} (g1 : j < lh.length), idx lh i = some lh[j] → (execOp (ev ρ) ⟨some d, .load t x, ty, pos, aft, none⟩).run P w = .ok (.value (pth.lo.get lh[j])) w := by
      intro j g1 hidx
      have hat := (hown.at rfl e2 hidx).path pth.lo _ rfl
      obtain ⟨es, hl, hce, hr, _⟩ := hat
      rw [hr] at hce
      exact run_load1 hd1 (hd2.trans hagg) e5 (hce 0 _ rfl)
    split at h2
    · obtain ⟨a, ha, hk⟩ := bind_some h2
      obtain ⟨j, hj, g1, g2, rfl, hidx⟩ := idx_low hlen ha
      exact ⟨_, hk, RunsTo.val (run g1 hidx) (detach_post hs hpth hob e1 hj g2 hown.2 hlen hrel hparts)⟩
    · rename_i hh
      obtain ⟨hp, h3⟩ := bif_eq h2
      have hp := pathBeq_eq hp
      split at h3
      case isFalse => cases h3
      rename_i hi
      have hi : hh.i = i := of_decide_eq_true hi
      obtain ⟨a, ha, hk⟩ := bind_some h3
      obtain ⟨j, hj, g1, g2, rfl, hidx⟩ := idx_low hlen ha
      obtain ⟨T'', e'', q'', k1, _, k3⟩ := (hrel j g1 g2).2 (hi.trans hj)
      rw [hp, hpth] at k1
      cases k1
      refine ⟨_, hk, says_pure hs (run g1 hidx) (own_dst k3 ?_)⟩
      have hat := (hown.at rfl e2 hidx).path pth.lo _ rfl
      obtain ⟨es, _, _, _, A, m', c, hu'⟩ := hat
      rw [hu']
      rfl
  · cases h'

/-! ## Stores -/
def asD (T : TypeId) : (e : DR) → Th → Option (List e.row.den)
  | .leaf r, .own T1 r1 y => bif Nat.beq T1 T then (if h : r1.beq r = true then some (castR (r := .slice r1) (s := .slice r) (congrArg Row.slice (Row.eq_of_beq h)) y) else none) else none
  | .sl T2 e2, .deep T1 (.sl T3 e3) y none => bif Nat.beq T1 T then (if h : (DR.sl T3 e3).beq (.sl T2 e2) = true then some (DR.eq_of_beq h ▸ y) else none) else none
  | .pair a b, .deep T1 (.pair a1 b1) y none => bif Nat.beq T1 T then (if h : (DR.pair a1 b1).beq (.pair a b) = true then some (DR.eq_of_beq h ▸ y) else none) else none
  | _, _ => none
theorem asD_ok {T : TypeId} {e : DR} {t : Th} {y : List e.row.den} (h : asD T e t = some y) : t = mkD T e y := by
  unfold asD at h
  split at h
  · obtain ⟨h1, h2⟩ := bif_eq h
    split at h2
    · rename_i hb
      obtain rfl := Row.eq_of_beq hb
      obtain rfl := Option.some.inj h2
      rw [beq_true h1]; rfl
    · cases h2
  · obtain ⟨h1, h2⟩ := bif_eq h
    split at h2
    · rename_i hb
      cases DR.eq_of_beq hb
      obtain rfl := Option.some.inj h2
      rw [beq_true h1]; rfl
    · cases h2
  · obtain ⟨h1, h2⟩ := bif_eq h
    split at h2
    · rename_i hb
      cases DR.eq_of_beq hb
      obtain rfl := Option.some.inj h2
      rw [beq_true h1]; rfl
    · cases h2
  · cases h

/-- The place is the hole, or there is none. -/
def holeAt (h : Option Hole) (i : Int) (p : List Bool) : Bool :=
  match h with
  | none => true
  | some h => pathBeq h.p p && decide (h.i = i)
theorem hole_out {h : Option Hole} {i : Int} {p : List Bool} (hh : holeAt h i p = true) {dr e : DR} {T : TypeId} {q : DPath dr (.sl T e)} (hq : dr.path p = some ⟨_, q⟩) {j : Nat} (hj : i = (j : Nat)) {x' : dr.low.den} {x : dr.row.den} {S : Nat → Prop} (hr : HRel H F w dr h j x' x S) :
    ∃ B, (∀ k, B k → S k) ∧ DOut F w q x' x B := by
  cases h with
  | none =>
    obtain ⟨A, B, _, h2, h3⟩ := DEl.out q (show DEl F w dr x' x S from hr)
    exact ⟨B, h3.right, h2⟩
  | some h =>
    have h' : (pathBeq h.p p && decide (h.i = i)) = true := hh
    obtain ⟨h1, h2⟩ := and2 h'
    obtain ⟨T', e', q', k1, k2, _⟩ := hr.2 ((of_decide_eq_true h2).trans hj)
    rw [pathBeq_eq h1, hq] at k1
    cases k1
    exact ⟨S, fun _ h => h, k2⟩
theorem hole_other {h : Option Hole} {i : Int} {p : List Bool} (hh : holeAt h i p = true) {dr : DR} {j : Nat} (hj : i ≠ (j : Nat)) {x' : dr.low.den} {x : dr.row.den} {S : Nat → Prop} (hr : HRel H F w dr h j x' x S) : DEl F w dr x' x S := by
  cases h with
  | none => exact hr
  | some h =>
    have h' : (pathBeq h.p p && decide (h.i = i)) = true := hh
    obtain ⟨h1, h2⟩ := and2 h'
    exact hr.1 (fun e => hj ((of_decide_eq_true h2).symm.trans e))
end
end Go.Proofs.YtjeeligfdpociaaGreat
