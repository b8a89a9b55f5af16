/- Maps whose values are slices of the call's own: made, looked up (the slice is taken out), changed, put back. -/
import Derived.Test.YtjeeligfdpociaaGreatEffs9
namespace Go.Proofs.YtjeeligfdpociaaGreat
open Go Go.RowKit Go.MapKept

/-- The value at a key that is there. -/
noncomputable def modA {α : Type} (K : Row) : List (K.den × α) → K.den → α → List (K.den × α)
  | [], _, _ => []
  | p :: l, k, v => if keyEq K p.1 k = true then (p.1, v) :: l else p :: modA K l k v

theorem keyEq_eq {K : Row} {a b : K.den} (h : keyEq K a b = true) : a = b := by
  unfold keyEq at h
  split at h <;> first | exact of_decide_eq_true h | cases h

section
variable {P : Program} {ρ : Nat → Value} {w w' : World} {H H' : Hist} {F F' : Nat → Prop} {U : Nat → Prop} {ob : Nat → Option (Nat × Th)} {n : Nat} {R : Type}
variable {op : Op} {ty : TypeId} {pos : String} {aft : Array Edge} {d : Nat}
variable {K : Row} {E : TypeId} {r : Row}

theorem Two.none (A : Nat → Prop) : Two (fun _ => False) A A := ⟨fun k => by simp, fun _ h => h.elim⟩
theorem Two.mk' {A B : Nat → Prop} (h : ∀ k, A k → ¬ B k) : Two A B (fun k => A k ∨ B k) := ⟨fun _ => Iff.rfl, h⟩

/-- A key among the entries: found or not; what the entries are when the value there is another, or taken out. -/
theorem dents_find {dd : TypeDesc} {x : K.den} {kv : Value} (hK : ∀ x v, keyV K x = some v → IsKey dd v) (hx : keyV K x = some kv) : {h : Option (K.den × Nat)} → (∀ a o, h = some (a, o) → a = x) → {es : List MapEntry} → {l : List (K.den × List r.den)} → {S : Nat → Prop} → (i : Nat) → DEnts H F w K E r h es l S →
    (Instr.findNow dd kv es i = some none ∧ lookA K l x = none ∧ (∀ e ∈ es, e.key ≠ kv) ∧
      (∀ H' F' w' y (e : MapEntry) A, e.key = kv → Step F w F' w' → (∀ k, S k → w'.heap[k]? = w.heap[k]?) → Own1 F' w' E r e.val y A → (∀ k, A k → ¬ S k) → ∃ S2, DEnts H' F' w' K E r none (es ++ [e]) (putA K l x y) S2 ∧ ∀ k, S2 k → S k ∨ A k) ∧
      (h = none → ∀ H' o, DEnts H' F w K E r (some (x, o)) es l S)) ∨
    ∃ j e y0, Instr.findNow dd kv es i = some (some (i + j, e.val)) ∧ es[j]? = some e ∧ e.key = kv ∧ lookA K l x = some y0 ∧
      (∀ H' F' w' y (f : MapEntry → MapEntry) A, (f e).key = kv → Step F w F' w' → (∀ k, S k → w'.heap[k]? = w.heap[k]?) → Own1 F' w' E r (f e).val y A → (∀ k, A k → ¬ S k) → ∃ S2, DEnts H' F' w' K E r none (es.modify j f) (putA K l x y) S2 ∧ ∀ k, S2 k → S k ∨ A k) ∧
      (h = none → ∃ A B, Own1 F w E r e.val y0 A ∧ Two A B S ∧ ∀ H' o, H'.val o = some e.val → DEnts H' F w K E r (some (x, o)) es l B)
  | h, hh, [], l, S, i, hd => by
    have hd' : l = [] ∧ ∀ k, ¬ S k := by cases h <;> exact hd
    obtain ⟨rfl, hS⟩ := hd'
    refine .inl ⟨rfl, rfl, by simp, fun H' F' w' y e A he hs hb hv hA => ⟨A, ⟨x, y, [], A, fun _ => False, rfl, by rw [he]; exact hx, hv, ⟨rfl, fun _ h => h⟩, ⟨fun k => by simp, fun _ _ h => h⟩⟩, fun k hk => .inr hk⟩, fun _ H' o => ⟨rfl, hS⟩⟩
  | h, hh, e :: es, l, S, i, hd => by
    have gen : ∃ k y l' A B, l = (k, y) :: l' ∧ keyV K k = some e.key ∧ Two A B S ∧ ((h = none → Own1 F w E r e.val y A) ∧ (keyEq K k x = false → Own1 F w E r e.val y A ∧ DEnts H F w K E r h es l' B) ∧ (keyEq K k x = true → DEnts H F w K E r none es l' B)) := by
      cases h with
      | none =>
        obtain ⟨k, y, l', A, B, e0, h1, h2, h3, h4⟩ := hd
        exact ⟨k, y, l', A, B, e0, h1, h4, fun _ => h2, fun _ => ⟨h2, h3⟩, fun _ => h3⟩
      | some p =>
        obtain ⟨a, o⟩ := p
        obtain rfl := hh a o rfl
        obtain ⟨k, y, l', A, B, e0, h1, h2, h4⟩ := hd
        refine ⟨k, y, l', A, B, e0, h1, h4, fun e => (by cases e), fun hk => ?_, fun hk => ?_⟩
        · rcases h2 with ⟨g, _⟩ | ⟨_, g2, g3⟩
          · rw [hk] at g; cases g
          · exact ⟨g2, g3⟩
        · rcases h2 with ⟨_, _, _, g⟩ | ⟨g, _⟩
          · exact g
          · rw [hk] at g; cases g
    obtain ⟨k, y, l', A, B, rfl, h1, h4, hnone, hmiss, hhit⟩ := gen
    obtain ⟨q, hq0, hiff⟩ := sameNow_of_keys (hK x kv hx) (hK k _ h1)
    have hkk := keyEq_iff h1 hx
    cases q with
    | true =>
      have hke : kv = e.key := hiff.1 rfl
      have hq : keyEq K k x = true := hkk.2 hke.symm
      obtain rfl := keyEq_eq hq
      refine .inr ⟨0, e, y, by simp [Instr.findNow, hq0], rfl, hke.symm, by simp [lookA, hq], fun H' F' w' y' f A' hf hs hb hv hA => ?_, fun hn => ?_⟩
      · have hdis : ∀ j, A' j → ¬ B j := fun j hj hB => hA j hj (h4.right j hB)
        refine ⟨fun j => A' j ∨ B j, ?_, fun j hj => hj.elim .inr fun hB => .inl (h4.right j hB)⟩
        show DEnts H' F' w' K E r none (f e :: es) (if keyEq K k k = true then (k, y') :: l' else (k, y) :: putA K l' k y') _
        rw [if_pos hq]
        exact ⟨k, y', l', A', B, rfl, by rw [hf, h1, hke], hv, (hhit hq).keep hs (fun _ _ _ e => by cases e) fun j hj => hb j (h4.right j hj), Two.mk' hdis⟩
      · subst hn
        exact ⟨A, B, hnone rfl, h4, fun H' o ho => ⟨k, y, l', fun _ => False, B, rfl, h1, .inl ⟨hq, ho, fun _ h => h, (hhit hq).keep (Step.refl F w) (fun _ _ _ e => by cases e) fun _ _ => rfl⟩, Two.none B⟩⟩
    | false =>
      have hne : ¬ e.key = kv := fun q => by have := hiff.2 q.symm; cases this
      have hq : keyEq K k x = false := by
        cases hc : keyEq K k x with
        | false => rfl
        | true => exact absurd (hkk.1 hc) hne
      obtain ⟨hown, hrest⟩ := hmiss hq
      have hq' : ¬ keyEq K k x = true := by rw [hq]; exact fun h => by cases h
      rcases dents_find hK hx hh (i + 1) hrest with ⟨a1, a2, a3, a4, a5⟩ | ⟨j, e', z, a1, a2, a3, a4, a5, a6⟩
      · refine .inl ⟨by simp [Instr.findNow, hq0, a1], by simp [lookA, hq', a2], fun e' he' => ?_, fun H' F' w' y' e' A' he' hs hb hv hA => ?_, fun hn H' o => ?_⟩
        · rcases List.mem_cons.1 he' with rfl | he'
          · exact hne
          · exact a3 e' he'
        · obtain ⟨S2, b1, b2⟩ := a4 H' F' w' y' e' A' he' hs (fun j hj => hb j (h4.right j hj)) hv (fun j hj hB => hA j hj (h4.right j hB))
          have hdis : ∀ j, A j → ¬ S2 j := fun j hj h2 => (b2 j h2).elim (h4.off j hj) fun hA' => hA j hA' (h4.left j hj)
          refine ⟨fun j => A j ∨ S2 j, ?_, fun j hj => hj.elim (fun h => .inl (h4.left j h)) fun h => (b2 j h).imp (h4.right j) id⟩
          show DEnts H' F' w' K E r none (e :: (es ++ [e'])) (if keyEq K k x = true then (k, y') :: l' else (k, y) :: putA K l' x y') _
          rw [if_neg hq']
          exact ⟨k, y, _, A, S2, rfl, h1, hown.keep hs fun j hj => hb j (h4.left j hj), b1, Two.mk' hdis⟩
        · subst hn
          exact ⟨k, y, l', A, B, rfl, h1, .inr ⟨hq, hown, a5 rfl H' o⟩, h4⟩
      · refine .inr ⟨j + 1, e', z, by simp [Instr.findNow, hq0, a1]; omega, by simpa using a2, a3, by simp [lookA, hq', a4], fun H' F' w' y' f A' hf hs hb hv hA => ?_, fun hn => ?_⟩
        · obtain ⟨S2, b1, b2⟩ := a5 H' F' w' y' f A' hf hs (fun j hj => hb j (h4.right j hj)) hv (fun j hj hB => hA j hj (h4.right j hB))
          have hdis : ∀ j, A j → ¬ S2 j := fun j hj h2 => (b2 j h2).elim (h4.off j hj) fun hA' => hA j hA' (h4.left j hj)
          refine ⟨fun j => A j ∨ S2 j, ?_, fun j hj => hj.elim (fun h => .inl (h4.left j h)) fun h => (b2 j h).imp (h4.right j) id⟩
          show DEnts H' F' w' K E r none (e :: es.modify j f) (if keyEq K k x = true then (k, y') :: l' else (k, y) :: putA K l' x y') _
          rw [if_neg hq']
          exact ⟨k, y, _, A, S2, rfl, h1, hown.keep hs fun j hj => hb j (h4.left j hj), b1, Two.mk' hdis⟩
        · subst hn
          obtain ⟨A2, B2, c1, c2, c3⟩ := a6 rfl
          have hdis : ∀ j, A j → ¬ B2 j := fun j hj h2 => h4.off j hj (c2.right j h2)
          refine ⟨A2, fun j => A j ∨ B2 j, c1, ⟨fun j => ?_, fun j hj h2 => ?_⟩, fun H' o ho => ⟨k, y, l', A, B2, rfl, h1, .inr ⟨hq, hown, c3 H' o ho⟩, Two.mk' hdis⟩⟩
          · rw [h4.all, c2.all]
            constructor <;> (intro h; rcases h with h | h | h <;> simp [h])
          · exact h2.elim (fun h => h4.off j h (c2.left j hj)) (c2.off j hj)

/-- What was taken out is put back. -/
theorem dents_mend {a : K.den} {o : Nat} {u : Value} {y : List r.den} {A0 : Nat → Prop} (hu : H.val o = some u) (hy : Own1 F w E r u y A0) : {es : List MapEntry} → {l : List (K.den × List r.den)} → {S : Nat → Prop} → (∀ k, A0 k → ¬ S k) → DEnts H F w K E r (some (a, o)) es l S →
    ∃ S2, (∀ H', DEnts H' F w K E r none es (modA K l a y) S2) ∧ ∀ k, S2 k → S k ∨ A0 k
  | [], l, S, _, h => by
    obtain ⟨rfl, hS⟩ := h
    exact ⟨S, fun _ => ⟨rfl, hS⟩, fun k hk => .inl hk⟩
  | e :: es, l, S, hA, h => by
    obtain ⟨k, y0, l', A, B, rfl, h1, h2, h4⟩ := h
    rcases h2 with ⟨g1, g2, g3, g4⟩ | ⟨g1, g2, g3⟩
    · rw [hu] at g2
      obtain rfl := Option.some.inj g2
      refine ⟨fun j => A0 j ∨ B j, fun H' => ?_, fun j hj => hj.elim .inr fun h => .inl (h4.right j h)⟩
      show DEnts H' F w K E r none (e :: es) (if keyEq K k a = true then (k, y) :: l' else (k, y0) :: modA K l' a y) _
      rw [if_pos g1]
      exact ⟨k, y, l', A0, B, rfl, h1, hy, g4.keep (Step.refl F w) (fun _ _ _ e => by cases e) (fun _ _ => rfl), Two.mk' fun j hj hB => hA j hj (h4.right j hB)⟩
    · obtain ⟨S2, b1, b2⟩ := dents_mend hu hy (fun j hj hB => hA j hj (h4.right j hB)) g3
      have hdis : ∀ j, A j → ¬ S2 j := fun j hj h2 => (b2 j h2).elim (h4.off j hj) fun hA' => hA j hA' (h4.left j hj)
      refine ⟨fun j => A j ∨ S2 j, fun H' => ?_, fun j hj => hj.elim (fun h => .inl (h4.left j h)) fun h => (b2 j h).imp (h4.right j) id⟩
      show DEnts H' F w K E r none (e :: es) (if keyEq K k a = true then (k, y) :: l' else (k, y0) :: modA K l' a y) _
      rw [if_neg (by rw [g1]; exact fun h => by cases h)]
      exact ⟨k, y0, _, A, S2, rfl, h1, g2, b1 H', Two.mk' hdis⟩

/-- One by one. -/
theorem dents_to : {es : List MapEntry} → {l : List (K.den × List r.den)} → {S : Nat → Prop} → DEnts H F w K E r none es l S → es.length = l.length ∧ ∀ i (h : i < l.length), ∃ (e : MapEntry) (A : Nat → Prop), es[i]? = some e ∧ keyV K l[i].1 = some e.key ∧ Own1 F w E r e.val l[i].2 A ∧ ∀ k, A k → S k
  | [], l, S, h => by obtain ⟨rfl, _⟩ := h; exact ⟨rfl, fun i h => by simp at h⟩
  | e :: es, l, S, h => by
    obtain ⟨k, y, l', A, B, rfl, h1, h2, h3, h4⟩ := h
    obtain ⟨g1, g2⟩ := dents_to h3
    refine ⟨by simp [g1], fun i hi => ?_⟩
    cases i with
    | zero => exact ⟨e, A, rfl, h1, h2, h4.left⟩
    | succ i =>
      obtain ⟨e', A', q1, q2, q3, q4⟩ := g2 i (by simpa using hi)
      exact ⟨e', A', by simpa only [List.getElem?_cons_succ] using q1, q2, q3, fun k hk => h4.right k (q4 k hk)⟩

/-! ## Objects that part in two -/
theorem split_post (hs : ObSat U H F w ob n) {o s : Nat} {t0 t1 t2 : Th} (hob : ob o = some (s, t0)) {v : Value} (hv : H.val o = some v) (e1 : t1.base = t1) (e2 : t2.base = t2) {u : Value} (hone : u.oneCell' = true) {So A : Nat → Prop}
    (f1 : ∀ k, fp So v t1 k → fp (H.sub s) v t0 k) (f2 : ∀ k, fp A u t2 k → fp (H.sub s) v t0 k) (f12 : ∀ k, fp So v t1 k → ¬ fp A u t2 k)
    (k1 : ∀ H1, H.le H1 → H1.val n = some u → ThOK H1 F w So v t1) (k2 : ∀ H1, H.le H1 → ThOK H1 F w A u t2) {D : Desc} {dv : Value} (kd : ∀ H1, H.le H1 → H1.val n = some u → DescOK H1 F w D dv) :
    PostE H F w ob n { dst := D, eat := [o], make := [(o, (n, t1)), (n, (n + 1, t2))] } dv w := by
  obtain ⟨v1, hv1, hin⟩ := hs.obj _ _ _ hob
  rw [hv] at hv1
  obtain rfl := Option.some.inj hv1
  obtain ⟨g1, g2⟩ := hs.fresh n (Nat.le_refl _) (by omega)
  obtain ⟨g3, g4⟩ := hs.fresh (n + 1) (by omega) (by omega)
  let H1 : Hist := ⟨fun m => if m = n then some u else H.val m, fun m => if m = n then some t1 else if m = n + 1 then some t2 else H.con m, fun m => if m = n then So else if m = n + 1 then A else H.sub m⟩
  have hle : H.le H1 := by
    refine ⟨fun o v ho => ?_, fun s t hst => ?_, fun s t hst => ?_⟩
    · have : o ≠ n := fun e => by rw [e, g1] at ho; cases ho
      simp [H1, this, ho]
    · have a1 : s ≠ n := fun e => by rw [e, g2] at hst; cases hst
      have a2 : s ≠ n + 1 := fun e => by rw [e, g4] at hst; cases hst
      simp [H1, a1, a2, hst]
    · have a1 : s ≠ n := fun e => by rw [e, g2] at hst; cases hst
      have a2 : s ≠ n + 1 := fun e => by rw [e, g4] at hst; cases hst
      simp [H1, a1, a2]
  have hun : H1.val n = some u := by simp [H1]
  have heat : ∀ k, fp (H.sub s) v t0 k → eaten H ob [o] k := fun k hk => ⟨o, by simp, s, _, v, hob, hv, hk⟩
  have hs1 : H1.sub n = So := by simp [H1]
  have hs2 : H1.sub (n + 1) = A := by simp [H1]
  have two : ∀ {o' s' t'}, find [(o, (n, t1)), (n, (n + 1, t2))] o' = some (s', t') → (o' = o ∧ s' = n ∧ t' = t1) ∨ (o' = n ∧ s' = n + 1 ∧ t' = t2) := by
    intro o' s' t' hf
    rw [find_cons] at hf
    split at hf
    · rename_i e
      simp only [Option.some.injEq, Prod.mk.injEq] at hf
      exact .inl ⟨e.symm, hf.1.symm, hf.2.symm⟩
    · obtain ⟨e1, e⟩ := find_one hf
      obtain ⟨e2, e3⟩ := Prod.mk.inj e
      exact .inr ⟨e1, e2, e3⟩
  refine ⟨H1, F, ⟨hle, ⟨rfl, rfl, rfl, Nat.le_refl _, fun _ _ _ => rfl⟩, fun _ h => h, fun _ h => .inl h, hs.lt⟩, fun m hm => ?_, kd H1 hle hun, ⟨fun o' s' t hf => ?_, fun o1 o2 s1 s2 q1 q2 u1 u2 hne g1 g2 e1 e2 k hk hk' => ?_⟩, fun o' ho' => ?_⟩
  · have a1 : m ≠ n := by omega
    have a2 : m ≠ n + 1 := by omega
    simp [H1, a1, a2]
  · rcases two hf with ⟨rfl, rfl, rfl⟩ | ⟨rfl, rfl, rfl⟩
    · refine ⟨v, hle.val _ _ hv, hin.one, by rw [e1]; simp [H1], by rw [hs1]; exact k1 H1 hle hun, fun k hk => ?_⟩
      rw [hs1] at hk
      have := f1 k hk
      exact ⟨hin.no k this, hin.lt k this, .inr (heat k this)⟩
    · refine ⟨u, hun, hone, by rw [e2]; simp [H1], by rw [hs2]; exact k2 H1 hle, fun k hk => ?_⟩
      rw [hs2] at hk
      have := f2 k hk
      exact ⟨hin.no k this, hin.lt k this, .inr (heat k this)⟩
  · rcases two g1 with ⟨rfl, rfl, rfl⟩ | ⟨rfl, rfl, rfl⟩ <;> rcases two g2 with ⟨rfl, rfl, rfl⟩ | ⟨rfl, rfl, rfl⟩
    · exact hne rfl
    · rw [hs1] at hk
      rw [hs2] at hk'
      rw [hun] at e2
      obtain rfl := Option.some.inj e2
      rw [hle.val _ _ hv] at e1
      obtain rfl := Option.some.inj e1
      exact f12 k hk hk'
    · rw [hs1] at hk'
      rw [hs2] at hk
      rw [hun] at e1
      obtain rfl := Option.some.inj e1
      rw [hle.val _ _ hv] at e2
      obtain rfl := Option.some.inj e2
      exact f12 k hk' hk
    · exact hne rfl
  · obtain ⟨y, hy⟩ := Option.isSome_iff_exists.1 ho'
    rcases two (s' := y.1) (t' := y.2) hy with ⟨rfl, _⟩ | ⟨rfl, _⟩
    · exact .inl (by simp)
    · exact .inr (Nat.le_refl _)

/-! ## Made -/
def grpOf (T : Tabs P) (t : TypeId) : Option (Row × TypeId × Row) :=
  match find T.und t with
  | some (.map kt vt) => match find T.row kt with
    | some K => match find T.und vt with
      | some (.slice e) => match find T.row e with
        | some r => some (K, e, r)
        | none => none
      | _ => none
    | none => none
  | _ => none
def eMakeMapX (deep : Bool) (T : Tabs P) (n : Nat) (t : TypeId) (k : Eff → Option R) : Option R :=
  match (bif deep then grpOf T t else none) with
  | some (K, e, r) => k { dst := .val false (.own n), make := [(n, (n, .dmap t K e r [] none))] }
  | none => eMakeMap T n t k
theorem eMakeMapX_ok (deep : Bool) (T : Tabs P) {t : TypeId} {k : Eff → Option R} {q : R} (h : eMakeMapX deep T n t k = some q) (hs : ObSat U H F w ob n) :
    ∃ e, k e = some q ∧ Says P U H F w ρ ob n ⟨some d, .makeMap t none, ty, pos, aft, none⟩ e := by
  unfold eMakeMapX at h
  split at h
  case h_2 => exact eMakeMap_ok T h hs
  rename_i K e r _
  have hrun : (execOp (ev ρ) ⟨some d, .makeMap t none, ty, pos, aft, none⟩).run P w = .ok (.value (.map (some w.heap.size))) (w.alloc (.map #[] 0)) := by
    simp [execOp, Instr.makeMap, Result.andThen]
  refine ⟨_, h, RunsTo.val hrun ?_⟩
  have hf := hs.fresh n (Nat.le_refl _) (by omega)
  let H1 : Hist := ((H.setSub n (is w.heap.size)).setCon n (.dmap t K e r [] none)).setVal n (.map (some w.heap.size))
  have hle : H.le H1 := (Hist.le_deep hf.2).trans (Hist.le_setVal (by simpa [Hist.setCon, Hist.setSub] using hf.1))
  have hv : H1.val n = some (.map (some w.heap.size)) := by simp [H1, Hist.setVal]
  have hsub : H1.sub n = is w.heap.size := by simp [H1, Hist.setVal, Hist.setCon, Hist.setSub]
  refine ⟨H1, F, ⟨hle, ext_alloc _, fun _ h => h, fun _ h => .inl h, fun b hb => by have := hs.lt b hb; simp; omega⟩, fun m hm => ?_, own_dst hv rfl, ⟨fun o' s' q hq => ?_, fun o1 o2 s1 s2 q1 q2 u1 u2 hne h1 h2 => ?_⟩, fun o' h => ?_⟩
  · have : m ≠ n := by omega
    simp [H1, Hist.setVal, Hist.setCon, Hist.setSub, this]
  · obtain ⟨rfl, e⟩ := find_one hq
    obtain ⟨rfl, rfl⟩ := Prod.mk.inj e
    refine ⟨_, hv, rfl, by simp [H1, Hist.setVal, Hist.setCon, Hist.setSub, Th.base], ?_, fun k hk => ?_⟩
    · rw [hsub]
      exact ⟨_, #[], 0, fun _ => False, rfl, (heap_alloc w _).1, stamped_empty 0, ⟨rfl, fun _ h => h⟩, ⟨fun k => by simp, fun _ _ h => h⟩, fun _ _ e => by cases e⟩
    · rw [hsub] at hk
      have hk : k = w.heap.size := hk
      subst hk
      exact ⟨fun e => by have := hs.lt _ e; omega, by simp, .inl (Nat.le_refl _)⟩
  · exact absurd ((find_one h1).1.trans (find_one h2).1.symm) hne
  · right
    obtain ⟨y, hy⟩ := Option.isSome_iff_exists.1 h
    rw [(find_one hy).1]
    exact Nat.le_refl _

/-! ## Looked up: the slice is taken out -/
noncomputable def eLookupX (T : Tabs P) (ob : Nat → Option (Nat × Th)) (n : Nat) (t : TypeId) (ok : Bool) (M X : Desc) (k : Eff → Option R) : Option R :=
  match M with
  | .val false (.own o) => match ob o with
    | some (_, .dmap T0 K E r l none) => match find T.und t with
      | some (.map kt vt) => match find T.zer vt with
        | some (false, .slice _) => bif keyOK T kt K && ok then (match asKey ob K X with
          | some x => k { dst := .tup [(false, .own n), (false, .leaf .bool (lookA K l x).isSome)], eat := [o], make := [(o, (n, .dmap T0 K E r l (some (x, n)))), (n, (n + 1, .own E r ((lookA K l x).getD [])))] }
          | none => none) else none
        | _ => none
      | _ => none
    | _ => eLookup T ob t ok M X k
  | _ => eLookup T ob t ok M X k

theorem eLookupX_ok (T : Tabs P) {t : TypeId} {ok : Bool} {M X : Desc} {m x : Operand} {k : Eff → Option R} {q : R} (h : eLookupX T ob n t ok M X k = some q) (hs : ObSat U H F w ob n) (hm : DescOK H F w M (ev ρ m)) (hx : DescOK H F w X (ev ρ x)) :
    ∃ e, k e = some q ∧ Says P U H F w ρ ob n ⟨some d, .lookup t m x ok, ty, pos, aft, none⟩ e := by
  unfold eLookupX at h
  split at h
  case h_2 => exact eLookup_ok T h hs hm hx
  rename_i o
  split at h
  case h_2 => exact eLookup_ok T h hs hm hx
  rename_i s T0 K E r l hob
  split at h
  case h_2 => cases h
  rename_i kt vt hu
  split at h
  case h_2 => cases h
  rename_i re hz
  obtain ⟨hc, h'⟩ := bif_eq h
  clear h
  obtain ⟨hc1, hc2⟩ := and2 hc
  subst hc2
  split at h'
  case h_2 => cases h'
  rename_i a ha
  refine ⟨_, h', ?_⟩
  obtain ⟨dd, hd, hK, hR⟩ := keyOK_ok (F := F) (w := w) T hc1
  have hkey := hR _ _ (asKey_ok hs ha hx)
  have hik := hK _ _ hkey
  have hu' := T.und_ok _ _ hu
  have hz1 : (zeroValue vt).run P w = .ok (.slice none 0 0) w := by
    obtain ⟨z, hz1, e⟩ := T.zer_ok _ _ _ hz
    cases hi : P.info? vt with
    | none => rw [hi] at hz1; cases hz1
    | some ti =>
      rw [hi] at hz1
      have hz' : ti.zero = some z := hz1
      rw [cond_false] at e
      have e' : z = .slice none 0 0 := e
      subst e'
      simp [zeroValue, typeInfo, hi, hz', Result.andThen]
  obtain ⟨cs, ⟨v, hv, hone0, e⟩, _, h3⟩ := hm
  rw [h3 rfl] at e
  obtain rfl : ev ρ m = v := by simpa using e
  obtain ⟨v', hv', hin⟩ := hs.obj _ _ _ hob
  rw [hv] at hv'
  obtain rfl := Option.some.inj hv'
  obtain ⟨b, es, clock, B, hvb, hh, hst, hen, htwo, _⟩ := hin.ok
  have tup : ∀ (H1 : Hist) (u : Value) (q : Bool), H1.val n = some u → u.oneCell' = true → DescOK H1 F w (.tup [(false, .own n), (false, .leaf .bool q)]) (.tuple #[u, .bool q]) := fun H1 u q hu h1 =>
    ⟨[u, .bool q], rfl, _, _, rfl, ⟨[u], ⟨u, hu, h1, rfl⟩, rfl, fun _ => rfl⟩, _, _, rfl, ValOK.mkBool .., rfl⟩
  rcases dents_find (H := H) hK hkey (h := none) (fun _ _ e => by cases e) 0 hen with ⟨a1, a2, _, _, a5⟩ | ⟨j, e, y0, a1, _, _, a4, _, a6⟩
  · have hrun : (execOp (ev ρ) ⟨some d, .lookup t m x true, ty, pos, aft, none⟩).run P w = .ok (.value (.tuple #[.slice none 0 0, .bool (lookA K l a).isSome])) w := by
      rw [a2]
      simp [execOp, hvb, Instr.lookup, run_underlying hu', MapKept.run_getObj_map hh, MapKept.run_checkKey hd hik, MapKept.run_findKey hd a1, hz1, Result.andThen]
    refine RunsTo.val hrun ?_
    rw [a2]
    refine split_post (t1 := .dmap T0 K E r l (some (a, n))) (t2 := .own E r []) (u := .slice none 0 0) (So := H.sub s) (A := fun _ => False) hs hob hv rfl rfl rfl (fun k hk => hk) (fun k hk => ?_) (fun k hk hk' => ?_) (fun H1 hle hun => ?_) (fun H1 hle => OwnM.nil F w E r) fun H1 hle hun => tup H1 _ _ hun rfl
    · have hk' : mine (.slice none 0 0) k := hk
      simp [mine, Value.ownBlock] at hk'
    · have hk' : mine (.slice none 0 0) k := hk'
      simp [mine, Value.ownBlock] at hk'
    · exact ⟨b, es, clock, B, hvb, hh, hst, a5 rfl H1 n, htwo, fun a' o' e' => by cases e'; exact ⟨_, hun⟩⟩
  · rw [Nat.zero_add] at a1
    obtain ⟨A, B2, c1, c2, c3⟩ := a6 rfl
    have hrun : (execOp (ev ρ) ⟨some d, .lookup t m x true, ty, pos, aft, none⟩).run P w = .ok (.value (.tuple #[e.val, .bool (lookA K l a).isSome])) w := by
      rw [a4]
      simp [execOp, hvb, Instr.lookup, run_underlying hu', MapKept.run_getObj_map hh, MapKept.run_checkKey hd hik, MapKept.run_findKey hd a1, Result.andThen]
    refine RunsTo.val hrun ?_
    rw [a4]
    have hAS : ∀ k, A k → H.sub s k := fun k hk => htwo.right k (c2.left k hk)
    refine split_post (t1 := .dmap T0 K E r l (some (a, n))) (t2 := .own E r y0) (u := e.val) (So := fun k => is b k ∨ B2 k) (A := A) hs hob hv rfl rfl c1.1.one (fun k hk => ?_) (fun k hk => ?_) (fun k hk hk' => ?_) (fun H1 hle hun => ?_) (fun H1 hle => c1.1) fun H1 hle hun => tup H1 _ _ hun c1.1.one
    · have hk : is b k ∨ B2 k := hk
      exact hk.elim (htwo.left k) fun h => htwo.right k (c2.right k h)
    · exact hAS k ((c1.2 k).2 hk)
    · have hk : is b k ∨ B2 k := hk
      have hk' : A k := (c1.2 k).2 hk'
      exact hk.elim (fun h => htwo.off k h (c2.left k hk')) (c2.off k hk')
    · exact ⟨b, es, clock, B2, hvb, hh, hst, c3 H1 n hun, Two.mk' fun k h1 h2 => htwo.off k h1 (c2.right k h2), fun a' o' e' => by cases e'; exact ⟨_, hun⟩⟩

/-! ## Changed -/
noncomputable def holeK (K : Row) (h : Option (K.den × Nat)) (x : K.den) : Bool :=
  match h with
  | none => true
  | some p => keyEq K p.1 x
noncomputable def eMapUpdateX (T : Tabs P) (ob : Nat → Option (Nat × Th)) (n : Nat) (t : TypeId) (M X Y : Desc) (k : Eff → Option R) : Option R :=
  match M with
  | .val false (.own o) => match ob o with
    | some (_, .dmap T0 K E r l h) => match find T.und t with
      | some (.map kt _) => bif keyOK T kt K then (match asKey ob K X with
        | some x => if holeK K h x = true then (match Y with
          | .val false .nil => k { dst := .dead, eat := [o], make := [(o, (n, .dmap T0 K E r (putA K l x []) none))] }
          | .val false (.own o1) => match ob o1 with
            | some (_, t1) => bif Nat.beq o1 o then none else (match asD E (.leaf r) t1 with
              | some y => k { dst := .dead, eat := [o, o1], make := [(o, (n, .dmap T0 K E r (putA K l x y) none))] }
              | none => none)
            | none => none
          | _ => none) else none
        | none => none) else none
      | _ => none
    | _ => eMapUpdate T ob n t M X Y k
  | _ => eMapUpdate T ob n t M X Y k

theorem dmap_store (T : Tabs P) {t : TypeId} {m x y : Operand} {o s : Nat} {T0 : TypeId} {K : Row} {E : TypeId} {r : Row} {l : List (K.den × List r.den)} {h : Option (K.den × Nat)} {kt vt : TypeId} {a : K.den} {z : List r.den} {A : Nat → Prop} {eat : List Nat}
    (hs : ObSat U H F w ob n) (hob : ob o = some (s, .dmap T0 K E r l h)) (hv : H.val o = some (ev ρ m)) (hu : find T.und t = some (.map kt vt)) (hk : keyOK T kt K = true) (hkey : Rep F w K [ev ρ x] a) (hh : holeK K h a = true) (hy : Own1 F w E r (ev ρ y) z A)
    (ho : o ∈ eat) (hA : ∀ k, A k → eaten H ob eat k) (hAS : ∀ k, A k → ¬ H.sub s k) :
    Says P U H F w ρ ob n ⟨none, .mapUpdate t m x y, ty, pos, aft, none⟩ { dst := .dead, eat := eat, make := [(o, (n, .dmap T0 K E r (putA K l a z) none))] } := by
  obtain ⟨dd, hd, hK, hR⟩ := keyOK_ok (F := F) (w := w) T hk
  have hkv := hR _ _ hkey
  obtain ⟨v', hv', hin⟩ := hs.obj _ _ _ hob
  rw [hv] at hv'
  obtain rfl := Option.some.inj hv'
  obtain ⟨b, es, clock, B, hvb, hb, hst, hen, htwo, _⟩ := hin.ok
  have hbF : ¬ F b := hin.no b (htwo.left b rfl)
  have hbB : ¬ B b := htwo.off b rfl
  have hbA : ¬ A b := fun h => hAS b h (htwo.left b rfl)
  have hSe : ∀ k, H.sub s k → eaten H ob eat k := fun k hk => ⟨o, ho, s, _, _, hob, hv, hk⟩
  have hax : ∀ a' o', h = some (a', o') → a' = a := fun a' o' e => by subst e; exact keyEq_eq hh
  have fin : ∀ o', (Instr.mapUpdate t (.map (some b)) (ev ρ x) (ev ρ y)).run P w = .ok () { w with heap := w.heap.setIfInBounds b o' } →
      (∀ H' w', Step F w F w' → (∀ k, B k → w'.heap[k]? = w.heap[k]?) → Own1 F w' E r (ev ρ y) z A → ∃ es' clock' S2, o' = .map es' clock' ∧ Stamped es' clock' ∧ DEnts H' F w' K E r none es'.toList (putA K l a z) S2 ∧ ∀ k, S2 k → B k ∨ A k) →
      Says P U H F w ρ ob n ⟨none, .mapUpdate t m x y, ty, pos, aft, none⟩ { dst := .dead, eat := eat, make := [(o, (n, .dmap T0 K E r (putA K l a z) none))] } := by
    intro o' hrun hen'
    refine RunsTo.unit (w' := { w with heap := w.heap.setIfInBounds b o' }) (by simp [execOp, hvb, hrun, Result.andThen]) ?_
    have hother : ∀ k, k ≠ b → (w.heap.setIfInBounds b o')[k]? = w.heap[k]? := (heap_set hb).2
    have hstep : Step F w F { w with heap := w.heap.setIfInBounds b o' } := fun k hk => ⟨hk, hother k fun e => hbF (e ▸ hk)⟩
    have hoth : ∀ {S : Nat → Prop}, ¬ S b → ∀ k, S k → ({ w with heap := w.heap.setIfInBounds b o' } : World).heap[k]? = w.heap[k]? := fun hn k hk => hother k fun e => hn (e ▸ hk)
    obtain ⟨es', clock', S2, rfl, g1, g2, g3⟩ := hen' H { w with heap := w.heap.setIfInBounds b o' } hstep (hoth hbB) (hy.keep hstep (hoth hbA))
    have hbS2 : ¬ S2 b := fun h => (g3 b h).elim hbB hbA
    refine Post.remake (t' := .dmap T0 K E r (putA K l a z) none) hs hob hv rfl ho (fun k => is b k ∨ S2 k) (fun k hk => ?_) ⟨rfl, rfl, rfl, by simp, fun k hk hn => hother k fun e => hn (by subst e; exact hSe _ (htwo.left _ rfl))⟩ ⟨b, es', clock', S2, hvb, (heap_set hb).1, g1, ?_, Two.mk' fun k h1 h2 => hbS2 (by rw [← show k = b from h1]; exact h2), fun _ _ e => by cases e⟩ trivial
    · have hk : is b k ∨ S2 k := hk
      rcases hk with hk | hk
      · exact hSe k (htwo.left k hk)
      · exact (g3 k hk).elim (fun h => hSe k (htwo.right k h)) (hA k)
    · exact g2.keep (Step.refl F _) (fun _ _ _ e => by cases e) fun _ _ => rfl
  obtain ⟨r1, r2⟩ := run_mapUpdate_ok (val := ev ρ y) (T.und_ok _ _ hu) hd hb (hK _ _ hkv)
  have hAB : ∀ k, A k → ¬ B k := fun k hk hB => hAS k hk (htwo.right k hB)
  rcases dents_find (H := H) hK hkv hax 0 hen with ⟨a1, a2, a3, a4, _⟩ | ⟨j, e, z0, a1, a2, a3, a4, a5, _⟩
  · refine fin _ (r1 a1) fun H' w' hst' hB hy' => ?_
    obtain ⟨S2, b1, b2⟩ := a4 H' F w' z { key := ev ρ x, val := ev ρ y, born := clock } A rfl hst' hB hy' hAB
    exact ⟨_, _, S2, rfl, stamped_push hst a3, by rw [Array.toList_push]; exact b1, b2⟩
  · rw [Nat.zero_add] at a1
    have hj : es[j]? = some e := by simpa using a2
    refine fin _ (r2 j _ a1 (by rw [hj]; exact a3)) fun H' w' hst' hB hy' => ?_
    obtain ⟨S2, b1, b2⟩ := a5 H' F w' z (fun e => { e with key := ev ρ x, val := ev ρ y }) A rfl hst' hB hy' hAB
    refine ⟨_, _, S2, rfl, stamped_modify hst _ _ (fun _ _ => rfl) (fun e' _ he' => ?_), by rw [Array.toList_modify]; exact b1, b2⟩
    rw [hj] at he'; cases he'; exact a3.symm

theorem eMapUpdateX_ok (T : Tabs P) {t : TypeId} {M X Y : Desc} {m x y : Operand} {k : Eff → Option R} {q : R} (h : eMapUpdateX T ob n t M X Y k = some q) (hs : ObSat U H F w ob n) (hm : DescOK H F w M (ev ρ m)) (hx : DescOK H F w X (ev ρ x)) (hy : DescOK H F w Y (ev ρ y)) :
    ∃ e, k e = some q ∧ Says P U H F w ρ ob n ⟨none, .mapUpdate t m x y, ty, pos, aft, none⟩ e := by
  unfold eMapUpdateX at h
  split at h
  case h_2 => exact eMapUpdate_ok T h hs hm hx hy
  rename_i o
  split at h
  case h_2 => exact eMapUpdate_ok T h hs hm hx hy
  rename_i s T0 K E r l hh hob
  split at h
  case h_2 => cases h
  rename_i kt vt hu
  obtain ⟨hk, h'⟩ := bif_eq h
  clear h
  split at h'
  case h_2 => cases h'
  rename_i a ha
  split at h'
  case isFalse => cases h'
  rename_i hhole
  obtain ⟨cs, ⟨v, hv, _, e⟩, _, h3⟩ := hm
  rw [h3 rfl] at e
  obtain rfl : ev ρ m = v := by simpa using e
  have hkey := asKey_ok hs ha hx
  split at h'
  · refine ⟨_, h', dmap_store (A := fun _ => False) T hs hob hv hu hk hkey hhole ?_ (by simp) (fun _ h => h.elim) fun _ h => h.elim⟩
    obtain ⟨cs, h1, _, h3⟩ := hy
    rw [h3 rfl] at h1
    have h1' : [ev ρ y] = [Value.slice none 0 0] := h1
    rw [show ev ρ y = .slice none 0 0 by simpa using h1']
    exact ⟨OwnM.nil F w E r, fun k => by simp [mine, Value.ownBlock]⟩
  · rename_i o1
    split at h'
    case h_2 => cases h'
    rename_i s1 t1 hob1
    cases hne : Nat.beq o1 o with
    | true => rw [hne] at h'; cases h'
    | false =>
      rw [hne, cond_false] at h'
      have hne : o ≠ o1 := fun e => by rw [e] at hne; simp at hne
      split at h'
      case h_2 => cases h'
      rename_i z hD
      obtain rfl := asD_ok hD
      obtain ⟨cs, ⟨u, hu1, _, e⟩, _, h3⟩ := hy
      rw [h3 rfl] at e
      obtain rfl : ev ρ y = u := by simpa using e
      obtain ⟨u', hu', hin1⟩ := hs.obj _ _ _ hob1
      rw [hu1] at hu'
      obtain rfl := Option.some.inj hu'
      exact ⟨_, h', dmap_store (A := mine (ev ρ y)) T hs hob hv hu hk hkey hhole ⟨hin1.ok, fun _ => Iff.rfl⟩ (by simp) (fun k hk => ⟨o1, by simp, s1, _, _, hob1, hu1, hk⟩) fun k hk h2 => hs.apart _ _ _ _ _ _ _ _ hne hob hob1 hv hu1 k h2 hk⟩
  · cases h'

/-! ## Put back -/
noncomputable def mendG (ob : Nat → Option (Nat × Th)) (n o : Nat) : Option Eff :=
  match ob o with
  | some (_, .dmap T0 K E r l (some (a, o1))) => match ob o1 with
    | some (_, t1) => bif Nat.beq o1 o then none else (match asD E (.leaf r) t1 with
      | some y => some { dst := .dead, eat := [o, o1], make := [(o, (n, .dmap T0 K E r (modA K l a y) none))] }
      | none => none)
    | none => none
  | _ => none
theorem mendG_post (hs : ObSat U H F w ob n) {o : Nat} {e : Eff} (h : mendG ob n o = some e) : PostE H F w ob n e undef w := by
  unfold mendG at h
  split at h
  case h_2 => cases h
  rename_i s T0 K E r l a o1 hob
  split at h
  case h_2 => cases h
  rename_i s1 t1 hob1
  cases hne : Nat.beq o1 o with
  | true => rw [hne] at h; cases h
  | false =>
    rw [hne, cond_false] at h
    have hne : o ≠ o1 := fun e => by rw [e] at hne; simp at hne
    split at h
    case h_2 => cases h
    rename_i y hD
    obtain rfl := Option.some.inj h
    obtain rfl := asD_ok hD
    obtain ⟨v, hv, hin⟩ := hs.obj _ _ _ hob
    obtain ⟨u, hu, hin1⟩ := hs.obj _ _ _ hob1
    obtain ⟨b, es, clock, B, hvb, hh, hst, hen, htwo, _⟩ := hin.ok
    have hA : ∀ k, mine u k → ¬ H.sub s k := fun k hk h2 => hs.apart _ _ _ _ _ _ _ _ hne hob hob1 hv hu k h2 hk
    obtain ⟨S2, b1, b2⟩ := dents_mend (A0 := mine u) hu ⟨hin1.ok, fun _ => Iff.rfl⟩ (fun k hk hB => hA k hk (htwo.right k hB)) hen
    have hbS2 : ¬ S2 b := fun h => (b2 b h).elim (htwo.off b rfl) fun h => hA b h (htwo.left b rfl)
    refine Post.remake (t' := .dmap T0 K E r (modA K l a y) none) hs hob hv rfl (by simp) (fun k => is b k ∨ S2 k) (fun k hk => ?_) ⟨rfl, rfl, rfl, Nat.le_refl _, fun _ _ _ => rfl⟩ ⟨b, es, clock, S2, hvb, hh, hst, b1 _, Two.mk' fun k h1 h2 => hbS2 (by rw [← show k = b from h1]; exact h2), fun _ _ e => by cases e⟩ trivial
    have hk : is b k ∨ S2 k := hk
    have hSe : ∀ k, H.sub s k → eaten H ob [o, o1] k := fun k hk => ⟨o, by simp, s, _, _, hob, hv, hk⟩
    rcases hk with hk | hk
    · exact hSe k (htwo.left k hk)
    · exact (b2 k hk).elim (fun h => hSe k (htwo.right k h)) fun h => ⟨o1, by simp, s1, _, _, hob1, hu, h⟩

/-- What was taken out, out of a slice or a map, is put back. -/
noncomputable def mendX (ob : Nat → Option (Nat × Th)) (n o : Nat) : Option Eff :=
  match mendE ob n o with
  | some e => some e
  | none => mendG ob n o
theorem mendX_post (hs : ObSat U H F w ob n) {o : Nat} {e : Eff} (h : mendX ob n o = some e) : PostE H F w ob n e undef w := by
  unfold mendX at h
  split at h
  · rename_i e' he
    cases h
    exact mend_post hs he
  · exact mendG_post hs h

/-! ## Slices that own slices: appended -/
theorem DR.low_zeros : (d : DR) → d.low.zeros = d.row.zeros
  | .leaf _ => rfl
  | .sl _ _ => rfl
  | .pair a b => by show a.low.zeros ++ b.low.zeros = a.row.zeros ++ b.row.zeros; rw [a.low_zeros, b.low_zeros]
theorem appA_low {α β : Type} {l m out : List α} {lx ly : List β} (h : appA l m = some out) (h1 : lx.length = l.length) (h2 : ly.length = m.length) : appA lx ly = some (lx ++ ly) ∧ out = l ++ m := by
  unfold appA at h ⊢
  split at h
  case isFalse => cases h
  rename_i hle
  exact ⟨by rw [if_pos (by omega)], (Option.some.inj h).symm⟩

theorem append_deep (T : Tabs P) {t e : TypeId} {r : Row} (hu : find T.und t = some (.slice e)) (hr : find T.row e = some r) {dr : DR} (hdr : dr.row = r) {x y : Operand} {l m out : List dr.row.den} {Sx : Nat → Prop} {eat : List Nat} {o2 s2 : Nat}
    (hs : ObSat U H F w ob n) (hx : DSl F w e dr.low (fun _ => DEl F w dr) (ev ρ x) l Sx) (hxF : ∀ k, Sx k → ¬ F k) (hxe : ∀ k, Sx k → eaten H ob eat k) (hxl : ∀ k, Sx k → k < w.heap.size)
    (hob2 : ob o2 = some (s2, .deep e dr m none)) (hv2 : H.val o2 = some (ev ρ y)) (ho2 : o2 ∈ eat) (hdis : ∀ k, Sx k → ¬ H.sub s2 k) (ha : appA l m = some out) :
    Says P U H F w ρ ob n ⟨some d, .call { callee := .builtin .append, args := #[x, y], argTypes := #[t, t] }, ty, pos, aft, none⟩ { dst := .val false (.own n), eat := eat, make := [(n, (n, .deep e dr out none))] } := by
  obtain ⟨lx, Sx', hmx, hlx, hrx, hpx⟩ := hx
  obtain ⟨ly, Sy, hoy, hly, hry, hpy⟩ := hs.low hob2 hv2
  obtain ⟨v2, hv2', hin2⟩ := hs.obj _ _ _ hob2
  rw [hv2] at hv2'
  obtain rfl := Option.some.inj hv2'
  obtain ⟨hal, rfl⟩ := appA_low ha hlx hly
  obtain ⟨ti, z, h1, h2, h3, h4, h5⟩ := T.row_ok _ _ hr
  have ht := T.und_ok _ _ hu
  subst hdr
  obtain ⟨v', w', hrun, hext, hown', hm⟩ := run_append ty ht h1 h2 (h3.trans dr.low_zeros.symm) (h4.trans dr.size.symm) h5 (base := 0) (l := lx) ⟨fun k hk => hxF k (hpx.mine k hk), hmx⟩ hoy.reads hal hs.lt (Nat.zero_le _)
  have hst : Step F w F w' := Step.ext hext hs.lt fun k hk => hxF k (hpx.mine k hk)
  have hye : ∀ k, H.sub s2 k → eaten H ob eat k := fun k hk => ⟨o2, ho2, s2, _, _, hob2, hv2, hk⟩
  have keepx : ∀ i, i < l.length → ∀ k, Sx' i k → w'.heap[k]? = w.heap[k]? := fun i hi k hk => hext.block k (hxl k (hpx.part hi k hk)) (hpx.out i k hi hk)
  have keepy : ∀ i, i < m.length → ∀ k, Sy i k → w'.heap[k]? = w.heap[k]? := fun i hi k hk => hext.block k (hin2.lt k (hpy.part hi k hk)) fun hmine => hdis k (hpx.mine k hmine) (hpy.part hi k hk)
  have hlen : (l ++ m).length = l.length + m.length := List.length_append
  have hvb : ∀ k, mine v' k → (Sx k ∧ mine (ev ρ x) k) ∨ k = w.heap.size := by
    intro k hk
    rcases hm with g | g
    · rw [g] at hk; exact .inl ⟨hpx.mine k hk, hk⟩
    · rw [g] at hk; exact .inr hk.symm
  let SS : Nat → Nat → Prop := fun i => if i < l.length then Sx' i else Sy (i - l.length)
  have hSx : ∀ i k, i < l.length → SS i k → Sx' i k := fun i k hi hk => by simpa only [SS, if_pos hi] using hk
  have hSy : ∀ i k, ¬ i < l.length → SS i k → Sy (i - l.length) k := fun i k hi hk => by simpa only [SS, if_neg hi] using hk
  have hSS : ∀ i k, i < (l ++ m).length → SS i k → Sx k ∨ H.sub s2 k := by
    intro i k hi hk
    by_cases hlt : i < l.length
    · exact .inl (hpx.part hlt k (hSx i k hlt hk))
    · exact .inr (hpy.part (by omega) k (hSy i k hlt hk))
  have hone : v'.oneCell' = true := OwnM.one (T := e) (r := dr.low) hown'.2
  refine RunsTo.val (v := v') (w' := w') (by simp [execOp, resolve, invoke, builtin, hrun]) (Post.newD (t := .deep e dr (l ++ m) none) (S := sumP (mine v') SS (l ++ m).length) hs rfl hone ⟨hext.os, hext.tape, hext.output, hext.size, fun k hk hn => hext.block k hk fun hmi => hn (hxe k (hpx.mine k hmi))⟩ ?_ (fun k hk => ?_) (own_dst (o := n) (v := v') (by simp [Hist.setVal]) hone))
  · refine ⟨lx ++ ly, SS, hown'.2, by simp [hlx, hly], fun i a b => ?_, ⟨fun k => Iff.rfl, fun i j k hi hj hne hk hk' => ?_, fun i k hi hk hmi => ?_⟩⟩
    · show DEl F w' dr (lx ++ ly)[i] (l ++ m)[i] (SS i)
      by_cases hlt : i < l.length
      · have e1 : (lx ++ ly)[i] = lx[i]'(by omega) := List.getElem_append_left (by omega)
        have e2 : (l ++ m)[i] = l[i] := List.getElem_append_left hlt
        have e3 : SS i = Sx' i := by simp only [SS, if_pos hlt]
        rw [e1, e2, e3]
        exact DEl.keep hst (hrx i (by omega) hlt) (keepx i hlt)
      · have e1 : (lx ++ ly)[i] = ly[i - l.length]'(by simp at a; omega) := by rw [List.getElem_append_right (by omega)]; simp only [hlx]
        have e2 : (l ++ m)[i] = m[i - l.length]'(by omega) := List.getElem_append_right (by omega)
        have e3 : SS i = Sy (i - l.length) := by simp only [SS, if_neg hlt]
        rw [e1, e2, e3]
        exact DEl.keep hst (hry (i - l.length) _ (by omega)) (keepy _ (by omega))
    · by_cases h1 : i < l.length <;> by_cases h2 : j < l.length
      · exact hpx.two i j k h1 h2 hne (hSx i k h1 hk) (hSx j k h2 hk')
      · exact hdis k (hpx.part h1 k (hSx i k h1 hk)) (hpy.part (by omega) k (hSy j k h2 hk'))
      · exact hdis k (hpx.part h2 k (hSx j k h2 hk')) (hpy.part (by omega) k (hSy i k h1 hk))
      · exact hpy.two (i - l.length) (j - l.length) k (by omega) (by omega) (by omega) (hSy i k h1 hk) (hSy j k h2 hk')
    · rcases hvb k hmi with ⟨g1, g2⟩ | g
      · by_cases h1 : i < l.length
        · exact hpx.out i k h1 (hSx i k h1 hk) g2
        · exact hdis k g1 (hpy.part (by omega) k (hSy i k h1 hk))
      · rcases hSS i k hi hk with h1 | h1
        · have := hxl k h1; omega
        · have := hin2.lt k h1; omega
  · have hk : sumP (mine v') SS (l ++ m).length k := hk
    have fin : Sx k ∨ H.sub s2 k → ¬ F k ∧ k < w'.heap.size ∧ (w.heap.size ≤ k ∨ eaten H ob eat k) := by
      rintro (h1 | h1)
      · exact ⟨hxF k h1, Nat.lt_of_lt_of_le (hxl k h1) hext.size, .inr (hxe k h1)⟩
      · exact ⟨hin2.no k h1, Nat.lt_of_lt_of_le (hin2.lt k h1) hext.size, .inr (hye k h1)⟩
    rcases hk with hk | ⟨i, hi, hk⟩
    · rcases hvb k hk with ⟨g, _⟩ | g
      · exact fin (.inl g)
      · exact ⟨fun e => by have := hs.lt k e; omega, hown'.lt k hk, .inl (by omega)⟩
    · exact fin (hSS i k hi hk)

def eAppendD (T : Tabs P) (ob : Nat → Option (Nat × Th)) (n : Nat) (t : TypeId) (X Y : Desc) (k : Eff → Option R) : Option R :=
  match find T.und t with
  | some (.slice e) => match find T.row e with
    | some r => match Y with
      | .val false (.own o2) => match ob o2 with
        | some (_, .deep T2 d2 m none) => bif Nat.beq T2 e && d2.row.beq r then (match X with
          | .val false .nil => (appA ([] : List d2.row.den) m).bind fun l => k { dst := .val false (.own n), eat := [o2], make := [(n, (n, .deep e d2 l none))] }
          | .val false (.own o1) => match ob o1 with
            | some (_, .deep T1 d1 l0 none) => bif Nat.beq o1 o2 then none else bif Nat.beq T1 e then (if h : d1.beq d2 = true then (appA (DR.eq_of_beq h ▸ l0) m).bind fun l => k { dst := .val false (.own n), eat := [o1, o2], make := [(n, (n, .deep e d2 l none))] } else none) else none
            | _ => none
          | _ => none) else none
        | _ => none
      | _ => none
    | none => none
  | _ => none
theorem eAppendD_ok (T : Tabs P) {t : TypeId} {X Y : Desc} {x y : Operand} {k : Eff → Option R} {q : R} (h : eAppendD T ob n t X Y k = some q) (hs : ObSat U H F w ob n) (hx : DescOK H F w X (ev ρ x)) (hy : DescOK H F w Y (ev ρ y)) :
    ∃ e, k e = some q ∧ Says P U H F w ρ ob n ⟨some d, .call { callee := .builtin .append, args := #[x, y], argTypes := #[t, t] }, ty, pos, aft, none⟩ e := by
  unfold eAppendD at h
  split at h
  case h_2 => cases h
  rename_i e hu
  split at h
  case h_2 => cases h
  rename_i r hr
  split at h
  case h_2 => cases h
  rename_i o2
  split at h
  case h_2 => cases h
  rename_i s2 T2 d2 m hob2
  obtain ⟨hc, h'⟩ := bif_eq h
  clear h
  obtain ⟨hc1, hc2⟩ := and2 hc
  obtain rfl := beq_true hc1
  have hdr := Row.eq_of_beq hc2
  obtain ⟨cs, ⟨u, hu2, _, e2⟩, _, h3⟩ := hy
  rw [h3 rfl] at e2
  obtain rfl : ev ρ y = u := by simpa using e2
  split at h'
  · obtain ⟨l, hl, hk⟩ := bind_some h'
    refine ⟨_, hk, append_deep (Sx := fun _ => False) T hu hr hdr hs ?_ (fun _ h => h.elim) (fun _ h => h.elim) (fun _ h => h.elim) hob2 hu2 (by simp) (fun _ h => h.elim) hl⟩
    obtain ⟨cs, h1, _, h4⟩ := hx
    rw [h4 rfl] at h1
    have h1' : [ev ρ x] = [Value.slice none 0 0] := h1
    rw [show ev ρ x = .slice none 0 0 by simpa using h1']
    exact ⟨[], fun _ _ => False, OwnM.nil F w T2 d2.low, rfl, fun i h => absurd h (by simp), ⟨fun k => by simp [mine, Value.ownBlock], fun _ _ _ h => absurd h (by simp), fun _ _ h => absurd h (by simp)⟩⟩
  · rename_i o1
    split at h'
    case h_2 => cases h'
    rename_i s1 T1 d1 l0 hob1
    cases hne : Nat.beq o1 o2 with
    | true => rw [hne] at h'; cases h'
    | false =>
      rw [hne, cond_false] at h'
      have hne : o1 ≠ o2 := fun e => by rw [e] at hne; simp at hne
      obtain ⟨hT, h⟩ := bif_eq h'
      clear h'
      obtain rfl := beq_true hT
      split at h
      case isFalse => cases h
      rename_i hb
      obtain rfl := DR.eq_of_beq hb
      obtain ⟨l, hl, hk⟩ := bind_some h
      obtain ⟨cs, ⟨v, hv1, _, e1⟩, _, h4⟩ := hx
      rw [h4 rfl] at e1
      obtain rfl : ev ρ x = v := by simpa using e1
      obtain ⟨v', hv', hin1⟩ := hs.obj _ _ _ hob1
      rw [hv1] at hv'
      obtain rfl := Option.some.inj hv'
      exact ⟨_, hk, append_deep (Sx := H.sub s1) T hu hr hdr hs hin1.ok hin1.no (fun k hk => ⟨o1, by simp, s1, _, _, hob1, hv1, hk⟩) hin1.lt hob2 hu2 (by simp) (fun k hk => hs.apart _ _ _ _ _ _ _ _ hne hob1 hob2 hv1 hu2 k hk) hl⟩
  · cases h'
def deepB (ob : Nat → Option (Nat × Th)) : Desc → Bool
  | .val false (.own o) => match ob o with
    | some (_, .deep ..) => true
    | _ => false
  | _ => false
def eAppendX (T : Tabs P) (ob : Nat → Option (Nat × Th)) (n : Nat) (t : TypeId) (X Y : Desc) (k : Eff → Option R) : Option R :=
  bif deepB ob Y then eAppendD T ob n t X Y k else eAppend T ob n t X Y k
theorem eAppendX_ok (T : Tabs P) {t : TypeId} {X Y : Desc} {x y : Operand} {k : Eff → Option R} {q : R} (h : eAppendX T ob n t X Y k = some q) (hs : ObSat U H F w ob n) (hx : DescOK H F w X (ev ρ x)) (hy : DescOK H F w Y (ev ρ y)) :
    ∃ e, k e = some q ∧ Says P U H F w ρ ob n ⟨some d, .call { callee := .builtin .append, args := #[x, y], argTypes := #[t, t] }, ty, pos, aft, none⟩ e := by
  unfold eAppendX at h
  cases hb : deepB ob Y with
  | true => rw [hb, cond_true] at h; exact eAppendD_ok T h hs hx hy
  | false => rw [hb, cond_false] at h; exact eAppend_ok T h hs hx hy
end
end Go.Proofs.YtjeeligfdpociaaGreat
