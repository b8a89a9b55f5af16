/- Code, walked by a function: joins, loops, results; a function's contract. -/
import Derived.Test.YtjeeligfdpociaaGreatDraw4
import Derived.Scope
namespace Go.Proofs.YtjeeligfdpociaaGreat
open Go Go.RowKit

inductive Ex where
  | normal
  | exit (id : Nat)
  | ret
  | goto (l : Nat)

def Ex.exit' : Ex → Exit
  | .normal => .normal
  | .exit id => .exit id
  | .ret => .ret
  | .goto l => .goto l

/-- No jump leaves a scope that is walked straight. -/
def noGoto {R : Type} (k : Ex → State → Option R) : Ex → State → Option R
  | .goto _, _ => none
  | e, st => k e st

/-- Where ways meet, and what is carried there. -/
inductive Ann where
  | nil
  | two (a b : Ann)
  | join (J : JS) (a b : Ann)    -- other ways out besides
  | meet (J : JS) (a b : Ann)    -- no other way out
  | loop (L : JS) (a : Ann)

def Ann.l : Ann → Ann
  | .two a _ => a
  | _ => .nil
def Ann.r : Ann → Ann
  | .two _ b => b
  | _ => .nil

/-- The slots that code writes to. -/
def writesO : List Oper → List Nat
  | [] => []
  | o :: l => match o.dst with
    | some d => d :: writesO l
    | none => writesO l
def writes : Code → List Nat
  | .region _ ops _ => writesO ops.toList
  | .seq a b => writes a ++ writes b
  | .cond _ a b => writes a ++ writes b
  | .block _ a => writes a
  | .loop a => writes a
  | .scope a => writes a
  | _ => []

def deadS : List Nat → List (Nat × Desc) → List (Nat × Desc)
  | [], l => l
  | t :: ts, l => (t, .dead) :: deadS ts l

def keysO : List (Nat × OS) → List Nat
  | [] => []
  | (j, _) :: l => j :: keysO l

def frameOf (st : State) (J : JS) : List (Nat × (Nat × Th)) := del (keysO J.objs ++ J.drop) st.objs
/-- The state behind a meeting. -/
def behind (st : State) (W : List Nat) (J : JS) (x : tupDen J.rows) : State :=
  { slots := (resS J.slots (ofTup _ x)).1 ++ deadS W st.slots, objs := resO st.nxt J.objs (resS J.slots (ofTup _ x)).2 ++ frameOf st J, nxt := J.nxt }
def carry0 (st : State) (J : JS) (st1 : State) : Option (tupDen J.rows) :=
  match packV st.nxt (frameOf st J) J st1.slots st1.objs with
  | some (x, _) => some x
  | none => none
def carry (st : State) (J : JS) (st1 : State) : Option (tupDen J.rows) := carry0 st J (mendS st1)

/-- Ways that meet, and others that do not. -/
def Join {J R : Type} (m : Option (J ⊕ R)) (k : J → Option R) : Option R := m.bind fun s => match s with
  | .inl j => k j
  | .inr r => some r

noncomputable def exec {P : Program} (E : Env P) (nt N : Nat) : Code → {R : Type} → Ann → State → (Ex → State → Option R) → Option R
  | .skip, _, _, st, k => k .normal st
  | .label _, _, _, st, k => k .normal st
  | .scope x, _, a, st, k => exec E nt N x a.l st (noGoto k)
  | .goto l, _, _, st, k => k (.goto l) st
  | .ret, _, _, st, k => k .ret st
  | .exit id, _, _, st, k => k (.exit id) st
  | .cond c x y, _, a, st, k => match rdo st.slots c with
    | some D => match asBool D with
      | some b => if b = true then exec E nt N x a.l st k else exec E nt N y a.r st k
      | none => none
    | none => none
  | .region _ ops draw, _, _, st, k => bif draw then druns E nt ops ops.toList st [] (k .normal) else runs E nt ops ops.toList [] st (k .normal)
  | .seq x y, R, a, st, k => match a with
    | .join J a1 a2 => Join (exec E nt N x (R := tupDen J.rows ⊕ R) a1 st (fun e st' => match e with
        | .normal => (carry st J st').map .inl
        | e => (k e st').map .inr)) fun j => exec E nt N y a2 (behind st (writes x) J j) k
    | .meet J a1 a2 => (exec E nt N x (R := tupDen J.rows) a1 st (fun e st' => match e with
        | .normal => carry st J st'
        | _ => none)).bind fun j => exec E nt N y a2 (behind st (writes x) J j) k
    | a => exec E nt N x a.l st (fun e st' => match e with
        | .normal => exec E nt N y a.r st' k
        | e => k e st')
  | .block id x, R, a, st, k => match a with
    | .join J a1 _ => Join (exec E nt N x (R := tupDen J.rows ⊕ R) a1 st (fun e st' => match e with
        | .normal => (carry st J st').map .inl
        | .exit i => bif Nat.beq i id then (carry st J st').map .inl else (k (.exit i) st').map .inr
        | e => (k e st').map .inr)) fun j => k .normal (behind st (writes x) J j)
    | .meet J a1 _ => (exec E nt N x (R := tupDen J.rows) a1 st (fun e st' => match e with
        | .normal => carry st J st'
        | .exit i => bif Nat.beq i id then carry st J st' else none
        | _ => none)).bind fun j => k .normal (behind st (writes x) J j)
    | a => exec E nt N x a.l st (fun e st' => match e with
        | .exit i => bif Nat.beq i id then k .normal st' else k (.exit i) st'
        | e => k e st')
  | .loop x, R, a, st, k => match a with
    | .loop L a1 => match carry st L st with
      | some s0 => Loop (S := tupDen L.rows) (X := R) (fun s => exec E nt N x (R := tupDen L.rows ⊕ R) a1 (behind st (writes x) L s) (fun e st' => match e with
          | .normal => (carry st L st').map .inl
          | e => (k e st').map .inr)) N s0
      | none => none
    | _ => none
  | _, _, _, _, _ => none

section
variable {P : Program} {nt N : Nat} {R : Type}
variable {ρ : Nat → Value} {w w0 : World} {H : Hist} {F F0 G : Nat → Prop}

theorem find_deadS {W : List Nat} {l : List (Nat × Desc)} {t : Nat} {d : Desc} (h : find (deadS W l) t = some d) : d = .dead ∨ (t ∉ W ∧ find l t = some d) := by
  induction W with
  | nil => exact .inr ⟨by simp, h⟩
  | cons s W ih =>
    have h' : find ((s, Desc.dead) :: deadS W l) t = some d := h
    rw [find_cons] at h'
    split at h'
    · exact .inl (Option.some.inj h').symm
    · rename_i e
      rcases ih h' with h1 | ⟨h1, h2⟩
      · exact .inl h1
      · exact .inr ⟨by simp [h1, Ne.symm e], h2⟩

/-- A meeting. -/
theorem carry0_ok {st st1 : State} {W : List Nat} {J : JS} {x : tupDen J.rows} {H1 : Hist} {F1 : Nat → Prop} {w1 : World} {ρ1 : Nat → Value} (h : carry0 st J st1 = some x) (hh : Here G w0 F0 H F w ρ st) (hh1 : Here G w0 F0 H1 F1 w1 ρ1 st1) (hk : Keeps H F w H1 F1 w1)
    (hρ : ∀ t, t ∉ W → ρ1 t = ρ t) : ∃ H2 F2, Here G w0 F0 H2 F2 w1 ρ1 (behind st W J x) ∧ Keeps H F w H2 F2 w1 := by
  unfold carry0 at h
  split at h
  case h_2 => cases h
  rename_i _ y rest hp
  obtain ⟨bs, objs1⟩ := rest
  obtain rfl := Option.some.inj h
  obtain ⟨F2, H2, a1, a2, a3, _, a5, _, a6, a7, a8⟩ := packV_ok (U' := UU G w0) hp hh.sat.ob hh.sat.all hk hh1.sat.ob hh1.sat.slot
  have hst : Step F1 w1 F2 w1 := fun b hb => ⟨a2 b hb, rfl⟩
  have hob := a8 hh1.sat.ob.new (fun o s t v k _ h2 h3 h4 => by
    obtain ⟨v', hv', hin⟩ := a1.obj _ _ _ h2
    rw [h3] at hv'
    obtain rfl := Option.some.inj hv'
    exact hin.use k h4) (fun o s t v k h2 h3 h4 => by
    have h5 := (find_del.1 h2).2
    obtain ⟨v', hv', hin⟩ := hh.sat.ob.obj _ _ _ h5
    rw [hk.hist.val _ _ hv'] at h3
    obtain rfl := Option.some.inj h3
    exact hin.use k (by rwa [hk.hist.sub _ _ hin.con] at h4))
  refine ⟨H2, F2, ⟨⟨fun t d hd => ?_, hob, a6⟩, ⟨hh1.glob.ext, fun b hb => a2 b (hh1.glob.le b hb), fun b hb => ?_⟩⟩, ⟨a5, fun b hb => ⟨a2 b (hk.step b hb).1, (hk.step b hb).2⟩⟩⟩
  · have hd' : find ((resS J.slots (ofTup J.rows y)).1 ++ deadS W st.slots) t = some d := hd
    rw [find_append] at hd'
    cases hm : find (resS J.slots (ofTup J.rows y)).1 t with
    | some d' =>
      rw [hm] at hd'
      obtain rfl := Option.some.inj hd'
      exact a7 t _ hm
    | none =>
      rw [hm, Option.none_or] at hd'
      rcases find_deadS hd' with rfl | ⟨h1, h2⟩
      · trivial
      · rw [hρ t h1]
        exact (hh.sat.slot t d h2).keep a5 fun b hb => ⟨a2 b (hk.step b hb).1, (hk.step b hb).2⟩
  · rcases a3 b hb with h1 | h1
    · exact hh1.glob.new b h1
    · exact .inr (hh1.sat.ob.eaten_use b h1)
theorem carry_ok {st st1 : State} {W : List Nat} {J : JS} {x : tupDen J.rows} {H1 : Hist} {F1 : Nat → Prop} {w1 : World} {ρ1 : Nat → Value} (h : carry st J st1 = some x) (hh : Here G w0 F0 H F w ρ st) (hh1 : Here G w0 F0 H1 F1 w1 ρ1 st1) (hk : Keeps H F w H1 F1 w1)
    (hρ : ∀ t, t ∉ W → ρ1 t = ρ t) : ∃ H2 F2, Here G w0 F0 H2 F2 w1 ρ1 (behind st W J x) ∧ Keeps H F w H2 F2 w1 := by
  obtain ⟨H1', F1', hh1', hk'⟩ := hh1.mendS
  exact carry0_ok h hh hh1' (hk.trans hk') hρ

theorem writesO_mem {l : List Oper} {o : Oper} {t : Nat} (ho : o ∈ l) (hd : o.dst = some t) : t ∈ writesO l := by
  induction l with
  | nil => cases ho
  | cons p l ih =>
    rcases List.mem_cons.1 ho with rfl | h
    · unfold writesO; rw [hd]; exact List.mem_cons_self
    · unfold writesO
      split
      · exact List.mem_cons_of_mem _ (ih h)
      · exact ih h

/-- What a way on may count on. -/
structure Then (G : Nat → Prop) (w0 : World) (F0 : Nat → Prop) (W : List Nat) (H : Hist) (F : Nat → Prop) (w : World) (ρ : Nat → Value) (H' : Hist) (F' : Nat → Prop) (w' : World) (ρ' : Nat → Value) (st' : State) : Prop where
  here : Here G w0 F0 H' F' w' ρ' st'
  keeps : Keeps H F w H' F' w'
  same : ∀ t, t ∉ W → ρ' t = ρ t

theorem map_inl {α β : Type} {o : Option α} {f : α → β} {r : β} (h : o.map f = some r) : ∃ x, o = some x ∧ f x = r := Option.map_eq_some_iff.1 h

theorem exec_ok {E : Env P} : (c : Code) → {R : Type} → {q : R} → {a : Ann} → {st : State} → {k : Ex → State → Option R} → {H : Hist} → {F : Nat → Prop} → {w : World} → {ρ : Nat → Value} → {Q : Exit → (Nat → Value) → World → Prop} →
    exec E nt N c a st k = some q → Here G w0 F0 H F w ρ st →
    (∀ e st' H' F' w' ρ', k e st' = some q → Then G w0 F0 (writes c) H F w ρ H' F' w' ρ' st' → Q e.exit' ρ' w') → wpC P nt c Q ρ w
  | .skip, R, q, a, st, k, H, F, w, ρ, Q, h, hh, hk => wpC_skip (hk .normal st H F w ρ h ⟨hh, Keeps.refl H F w, fun _ _ => rfl⟩)
  | .ret, R, q, a, st, k, H, F, w, ρ, Q, h, hh, hk => wpC_ret (hk .ret st H F w ρ h ⟨hh, Keeps.refl H F w, fun _ _ => rfl⟩)
  | .exit id, R, q, a, st, k, H, F, w, ρ, Q, h, hh, hk => wpC_exit (hk (.exit id) st H F w ρ h ⟨hh, Keeps.refl H F w, fun _ _ => rfl⟩)
  | .cond c x y, R, q, a, st, k, H, F, w, ρ, Q, h, hh, hk => by
    unfold exec at h
    split at h
    case h_2 => cases h
    rename_i D hD
    split at h
    case h_2 => cases h
    rename_i b hb
    have hv := asBool_ok hb (rdo_ok hh.sat.ob.gl hh.sat.slot _ _ hD)
    split at h
    · rename_i e
      subst e
      exact wpC_true hv (exec_ok x h hh fun e st' H' F' w' ρ' h1 h2 => hk e st' H' F' w' ρ' h1 ⟨h2.here, h2.keeps, fun t ht => h2.same t fun hm => ht (by simp [writes, hm])⟩)
    · rename_i e
      have e : b = false := by cases b <;> simp_all
      subst e
      exact wpC_false hv (exec_ok y h hh fun e st' H' F' w' ρ' h1 h2 => hk e st' H' F' w' ρ' h1 ⟨h2.here, h2.keeps, fun t ht => h2.same t fun hm => ht (by simp [writes, hm])⟩)
  | .region id ops draw, R, q, a, st, k, H, F, w, ρ, Q, h, hh, hk => by
    unfold exec at h
    cases draw with
    | true =>
      rw [cond_true] at h
      exact draw_ok E.mix h hh fun st' H' F' w' ρ' h1 h2 h3 h4 => hk .normal st' H' F' w' ρ' h1 ⟨h2, h3, fun t ht => h4 t fun o ho e => ht (writesO_mem ho e)⟩
    | false =>
      rw [cond_false] at h
      have := runs_ok (K := fun ρ w => Q .normal ρ w) (ops := ops) (nt := nt) h (fun _ _ h => by cases h) hh fun st' H' F' w' ρ' h1 h2 h3 h4 => hk .normal st' H' F' w' ρ' h1 ⟨h2, h3, fun t ht => h4 t fun o ho e => ht (writesO_mem ho e)⟩
      have h2 := wpC_region (id := id) (l := ops.toList) (P := P) (n := nt) (Q := Q) (ρ := ρ) (w := w) (by rw [Array.toArray_toList]; exact this)
      rw [Array.toArray_toList] at h2
      exact h2
  | .seq x y, R, q, a, st, k, H, F, w, ρ, Q, h, hh, hk => by
    have fin : ∀ {H1 : Hist} {F1 : Nat → Prop} {w1 : World} {ρ1 : Nat → Value} {st1 : State} {a2 : Ann}, exec E nt N y a2 st1 k = some q → Here G w0 F0 H1 F1 w1 ρ1 st1 → Keeps H F w H1 F1 w1 → (∀ t, t ∉ writes x → ρ1 t = ρ t) → wpC P nt y Q ρ1 w1 := by
      intro H1 F1 w1 ρ1 st1 a2 g1 g2 g3 g4
      exact exec_ok y g1 g2 fun e st' H' F' w' ρ' h1 h2 => hk e st' H' F' w' ρ' h1 ⟨h2.here, g3.trans h2.keeps, fun t ht => (h2.same t fun hm => ht (by simp [writes, hm])).trans (g4 t fun hm => ht (by simp [writes, hm]))⟩
    have out : ∀ {e : Ex} {st' : State} {H' : Hist} {F' : Nat → Prop} {w' : World} {ρ' : Nat → Value}, k e st' = some q → Then G w0 F0 (writes x) H F w ρ H' F' w' ρ' st' → Q e.exit' ρ' w' := by
      intro e st' H' F' w' ρ' g1 g2
      exact hk e st' H' F' w' ρ' g1 ⟨g2.here, g2.keeps, fun t ht => g2.same t fun hm => ht (by simp [writes, hm])⟩
    unfold exec at h
    split at h
    · rename_i J a1 a2
      unfold Join at h
      obtain ⟨s, hs, h⟩ := bind_some h
      refine wpC_seq (exec_ok x hs hh fun e st' H' F' w' ρ' h1 h2 => ?_)
      cases e with
      | normal =>
        obtain ⟨j, hj, rfl⟩ := map_inl h1
        obtain ⟨H2, F2, g1, g2⟩ := carry_ok (W := writes x) hj hh h2.here h2.keeps h2.same
        exact fin h g1 g2 h2.same
      | exit id =>
        obtain ⟨r, hr, rfl⟩ := map_inl h1
        obtain rfl := Option.some.inj h
        exact out hr h2
      | ret =>
        obtain ⟨r, hr, rfl⟩ := map_inl h1
        obtain rfl := Option.some.inj h
        exact out hr h2
      | goto l =>
        obtain ⟨r, hr, rfl⟩ := map_inl h1
        obtain rfl := Option.some.inj h
        exact out hr h2
    · rename_i J a1 a2
      obtain ⟨s, hs, h⟩ := bind_some h
      refine wpC_seq (exec_ok x hs hh fun e st' H' F' w' ρ' h1 h2 => ?_)
      cases e with
      | normal =>
        obtain ⟨H2, F2, g1, g2⟩ := carry_ok (W := writes x) h1 hh h2.here h2.keeps h2.same
        exact fin h g1 g2 h2.same
      | exit id => cases h1
      | ret => cases h1
      | goto l => cases h1
    · refine wpC_seq (exec_ok x h hh fun e st' H' F' w' ρ' h1 h2 => ?_)
      cases e with
      | normal => exact fin h1 h2.here h2.keeps h2.same
      | exit id => exact out h1 h2
      | ret => exact out h1 h2
      | goto l => exact out h1 h2
  | .block id x, R, q, a, st, k, H, F, w, ρ, Q, h, hh, hk => by
    have hw : writes (.block id x) = writes x := rfl
    rw [hw] at hk
    have toB : ∀ {e : Ex} {ρ' : Nat → Value} {w' : World}, (match e with | .exit i => if i = id then Q .normal ρ' w' else Q (.exit i) ρ' w' | e => Q e.exit' ρ' w') → inB id Q e.exit' ρ' w' := by
      intro e ρ' w' g
      cases e with
      | normal => exact g
      | ret => exact g
      | goto l => exact g
      | exit i =>
        by_cases e : i = id
        · subst e
          simp only [if_pos] at g
          exact inB_same g
        · simp only [if_neg e] at g
          refine inB_other ?_ g
          cases hb : Nat.beq i id with
          | false => rfl
          | true => exact absurd (beq_true hb) e
    have beq_ne : ∀ {i : Nat}, i ≠ id → Nat.beq i id = false := fun {i} e => by
      cases hb : Nat.beq i id with
      | false => rfl
      | true => exact absurd (beq_true hb) e
    unfold exec at h
    split at h
    · rename_i J a1 a2
      unfold Join at h
      obtain ⟨s, hs, h⟩ := bind_some h
      refine wpC_block (exec_ok x hs hh fun e st' H' F' w' ρ' h1 h2 => toB ?_)
      have inn : (carry st J st').map Sum.inl = some s → Q .normal ρ' w' := fun h1 => by
        obtain ⟨j, hj, rfl⟩ := map_inl h1
        obtain ⟨H2, F2, g1, g2⟩ := carry_ok (W := writes x) hj hh h2.here h2.keeps h2.same
        exact hk .normal _ H2 F2 w' ρ' h ⟨g1, g2, h2.same⟩
      have out : ∀ {e : Ex}, (k e st').map Sum.inr = some s → Q e.exit' ρ' w' := fun {e} h1 => by
        obtain ⟨r, hr, rfl⟩ := map_inl h1
        obtain rfl := Option.some.inj h
        exact hk e st' H' F' w' ρ' hr h2
      cases e with
      | normal => exact inn h1
      | exit i =>
        show if i = id then _ else _
        by_cases e : i = id
        · subst e
          rw [if_pos rfl]
          refine inn ?_
          simpa using h1
        · rw [if_neg e]
          simp only [beq_ne e, cond_false] at h1
          exact out (e := .exit i) h1
      | ret => exact out (e := .ret) h1
      | goto l => exact out (e := .goto l) h1
    · rename_i J a1 a2
      obtain ⟨s, hs, h⟩ := bind_some h
      refine wpC_block (exec_ok x hs hh fun e st' H' F' w' ρ' h1 h2 => toB ?_)
      have inn : carry st J st' = some s → Q .normal ρ' w' := fun h1 => by
        obtain ⟨H2, F2, g1, g2⟩ := carry_ok (W := writes x) h1 hh h2.here h2.keeps h2.same
        exact hk .normal _ H2 F2 w' ρ' h ⟨g1, g2, h2.same⟩
      cases e with
      | normal => exact inn h1
      | exit i =>
        show if i = id then _ else _
        by_cases e : i = id
        · subst e
          rw [if_pos rfl]
          refine inn ?_
          simpa using h1
        · simp only [beq_ne e, cond_false] at h1
          cases h1
      | ret => cases h1
      | goto l => cases h1
    · refine wpC_block (exec_ok x h hh fun e st' H' F' w' ρ' h1 h2 => toB ?_)
      cases e with
      | normal => exact hk .normal st' H' F' w' ρ' h1 h2
      | exit i =>
        show if i = id then _ else _
        by_cases e : i = id
        · subst e
          rw [if_pos rfl]
          refine hk .normal st' H' F' w' ρ' ?_ h2
          simpa using h1
        · rw [if_neg e]
          simp only [beq_ne e, cond_false] at h1
          exact hk (.exit i) st' H' F' w' ρ' h1 h2
      | ret => exact hk .ret st' H' F' w' ρ' h1 h2
      | goto l => exact hk (.goto l) st' H' F' w' ρ' h1 h2
  | .loop x, R, q, a, st, k, H, F, w, ρ, Q, h, hh, hk => by
    have hw : writes (.loop x) = writes x := rfl
    rw [hw] at hk
    unfold exec at h
    split at h
    case h_2 => cases h
    rename_i L a1
    split at h
    case h_2 => cases h
    rename_i s0 hs0
    refine wpC_loop (fun s ρ' w' => ∃ H' F', Here G w0 F0 H' F' w' ρ' (behind st (writes x) L s) ∧ Keeps H F w H' F' w' ∧ ∀ t, t ∉ writes x → ρ' t = ρ t) h ?_ ?_
    · obtain ⟨H2, F2, g1, g2⟩ := carry_ok (W := writes x) hs0 hh hh (Keeps.refl H F w) fun _ _ => rfl
      exact ⟨H2, F2, g1, g2, fun _ _ => rfl⟩
    · rintro s ρ' w' y ⟨H', F', g1, g2, g3⟩ hy
      refine exec_ok x hy g1 fun e st' H'' F'' w'' ρ'' h1 h2 => ?_
      have sm : ∀ t, t ∉ writes x → ρ'' t = ρ t := fun t ht => (h2.same t ht).trans (g3 t ht)
      have out : ∀ {e : Ex}, e ≠ .normal → (k e st').map Sum.inr = some y → LoopQ (fun s ρ' w' => ∃ H' F', Here G w0 F0 H' F' w' ρ' (behind st (writes x) L s) ∧ Keeps H F w H' F' w' ∧ ∀ t, t ∉ writes x → ρ' t = ρ t) Q q y e.exit' ρ'' w'' := fun {e} he h1 => by
        obtain ⟨r, hr, rfl⟩ := map_inl h1
        refine ⟨by cases e <;> simp_all [Ex.exit'], fun hq => ?_⟩
        subst hq
        exact hk e st' H'' F'' w'' ρ'' hr ⟨h2.here, g2.trans h2.keeps, sm⟩
      cases e with
      | normal =>
        obtain ⟨j, hj, rfl⟩ := map_inl h1
        obtain ⟨H2, F2, m1, m2⟩ := carry_ok (W := writes x) hj hh h2.here (g2.trans h2.keeps) sm
        exact ⟨rfl, H2, F2, m1, m2, sm⟩
      | exit i => exact out (e := .exit i) (by simp) h1
      | ret => exact out (e := .ret) (by simp) h1
      | goto l => exact out (e := .goto l) (by simp) h1
  | .label l, R, q, a, st, k, H, F, w, ρ, Q, h, hh, hk => fun act hf => wp_label ⟨ρ, hf, hk .normal st H F w ρ h ⟨hh, Keeps.refl H F w, fun _ _ => rfl⟩⟩
  | .scope x, R, q, a, st, k, H, F, w, ρ, Q, h, hh, hk => by
    have h1 := exec_ok (Q := fun e ρ w => match e with | .goto _ => False | e => Q e ρ w) x (show exec E nt N x a.l st (noGoto k) = some q from h) hh fun e st' H' F' w' ρ' h1 h2 => by
      cases e with
      | goto l => cases h1
      | _ => exact hk _ st' H' F' w' ρ' h1 h2
    intro act hf
    refine wp_scope_straight (wp_mono (h1 act hf) fun e a' w' ⟨ρ', hf', hh'⟩ => ?_)
    cases e <;> first
      | exact hh'.elim
      | exact ⟨ρ', hf', hh'⟩
  | .goto l, R, q, a, st, k, H, F, w, ρ, Q, h, hh, hk => fun act hf => wp_goto ⟨ρ, hf, hk (.goto l) st H F w ρ h ⟨hh, Keeps.refl H F w, fun _ _ => rfl⟩⟩
  | .rangeFunc .., _, _, _, _, _, _, _, _, _, _, h, _, _ => by cases h
  | .refuse _, _, _, _, _, _, _, _, _, _, _, h, _, _ => by cases h
end
end Go.Proofs.YtjeeligfdpociaaGreat
