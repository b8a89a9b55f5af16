/- Functions with a label to which they jump back: walked by a function. -/
import Derived.Test.YtjeeligfdpociaaGreatFn
namespace Go.Proofs.YtjeeligfdpociaaGreat
open Go Go.RowKit

/-- As Q; by a jump to label l: J; no other jump. -/
def jmpQ (l : Nat) (J : (Nat → Value) → World → Prop) (Q : Exit → (Nat → Value) → World → Prop) : Exit → (Nat → Value) → World → Prop
  | .goto l', ρ, w => l' = l ∧ J ρ w
  | e, ρ, w => Q e ρ w
def jmpA (l : Nat) (J : Act → World → Prop) (Q : Exit → Act → World → Prop) : Exit → Act → World → Prop
  | .goto l', a, w => l' = l ∧ J a w
  | e, a, w => Q e a w

/-- A scope in which a label is jumped to, again and again: n tells how often at most. -/
theorem wp_scope_fuel {P : Program} {a : Act} {w : World} {Q : Exit → Act → World → Prop} {c rest : Code} (l : Nat) (J : Nat → Act → World → Prop) (hf : findLabel c l = some rest)
    (first : c.wp P (jmpA l (fun a w => ∃ n, J n a w) Q) a w)
    (pass : ∀ n a w, J n a w → rest.wp P (jmpA l (fun a' w' => ∃ m, m < n ∧ J m a' w') Q) a w) : (Code.scope c).wp P Q a w := by
  intro b k cs
  have hg : gotoIn l (.inScope c :: k) = some (.code rest :: .inScope c :: k) := by simp [gotoIn, hf]
  have key : ∀ n a w, J n a w → ∃ e a' w', Q e a' w' ∧ Arrives P (lone (b.at a (.code rest :: .inScope c :: k)) cs w) b k cs e a' w' := by
    intro n
    induction n using Nat.strongRecOn with
    | _ n ih =>
      intro a w hJ
      obtain ⟨e, a₁, w₁, hq, harr⟩ := pass n a w hJ b (.inScope c :: k) cs
      cases e with
      | normal => exact ⟨.normal, a₁, w₁, hq, Steps.trans harr (.one step_inScope)⟩
      | exit id => exact ⟨.exit id, a₁, w₁, hq, fun k' hk => harr k' (by simp [exitTo, hk])⟩
      | goto l' =>
        obtain ⟨rfl, m, hlt, hJ'⟩ := hq
        obtain ⟨e₂, a₂, w₂, hq₂, harr₂⟩ := ih m hlt a₁ w₁ hJ'
        exact ⟨e₂, a₂, w₂, hq₂, .of_steps (harr _ hg) harr₂⟩
      | ret => exact ⟨_, a₁, w₁, hq, harr⟩
      | panic ch => exact ⟨_, a₁, w₁, hq, harr⟩
      | outgrown => exact ⟨_, a₁, w₁, hq, harr⟩
  obtain ⟨e, a₁, w₁, hq, harr⟩ := first b (.inScope c :: k) cs
  cases e with
  | normal => exact ⟨.normal, a₁, w₁, hq, .head step_scope (Steps.trans harr (.one step_inScope))⟩
  | exit id => exact ⟨.exit id, a₁, w₁, hq, fun k' hk => .head step_scope (harr k' (by simp [exitTo, hk]))⟩
  | goto l' =>
    obtain ⟨rfl, m, hJ'⟩ := hq
    obtain ⟨e₂, a₂, w₂, hq₂, harr₂⟩ := key m a₁ w₁ hJ'
    exact ⟨e₂, a₂, w₂, hq₂, .of_steps (.head step_scope (harr _ hg)) harr₂⟩
  | ret => exact ⟨_, a₁, w₁, hq, .of_steps (.one step_scope) harr⟩
  | panic ch => exact ⟨_, a₁, w₁, hq, .of_steps (.one step_scope) harr⟩
  | outgrown => exact ⟨_, a₁, w₁, hq, .of_steps (.one step_scope) harr⟩

theorem wpC_scope {P : Program} {n : Nat} {Q : Exit → (Nat → Value) → World → Prop} {ρ : Nat → Value} {w : World} {x b : Code} {l : Nat} (J : Nat → (Nat → Value) → World → Prop) (hf : findLabel x l = some (.seq .skip b))
    (first : wpC P n x (jmpQ l (fun ρ w => ∃ m, J m ρ w) Q) ρ w) (pass : ∀ m ρ w, J m ρ w → wpC P n b (jmpQ l (fun ρ w => ∃ k, k < m ∧ J k ρ w) Q) ρ w) : wpC P n (.scope x) Q ρ w := by
  intro act hact
  refine wp_scope_fuel l (fun m a w => ∃ ρ, Fr n a ρ ∧ J m ρ w) hf (wp_mono (first act hact) fun e a' w' ⟨ρ', h1, h2⟩ => ?_) fun m a w ⟨ρ, hr, hJ⟩ => wp_seq (wp_skip (wp_mono (pass m ρ w hJ a hr) fun e a' w' ⟨ρ', h1, h2⟩ => ?_))
  · cases e with
    | goto l' => exact ⟨h2.1, h2.2.imp fun m hm => ⟨ρ', h1, hm⟩⟩
    | _ => exact ⟨ρ', h1, h2⟩
  · cases e with
    | goto l' => exact ⟨h2.1, h2.2.imp fun m hm => ⟨hm.1, ρ', h1, hm.2⟩⟩
    | _ => exact ⟨ρ', h1, h2⟩

/-- What stands behind the label. -/
def tailL (l : Nat) : Code → Option Code
  | .seq a b => match a with
    | .label l' => bif Nat.beq l' l then some b else none
    | a => bif (findLabel a l).isNone then tailL l b else none
  | _ => none
theorem tailL_ok {l : Nat} : {x b : Code} → tailL l x = some b → findLabel x l = some (.seq .skip b)
  | .seq a y, b, h => by
    unfold tailL at h
    split at h
    · rename_i l'
      obtain ⟨h1, rfl⟩ := bif_some h
      obtain rfl := beq_true h1
      simp [findLabel]
    · obtain ⟨h1, h2⟩ := bif_eq h
      have h3 := tailL_ok h2
      have h4 : findLabel a l = none := by simpa using h1
      simp [findLabel, h4, h3]
  | .skip, _, h => by cases h
  | .ret, _, h => by cases h
  | .exit _, _, h => by cases h
  | .cond _ _ _, _, h => by cases h
  | .region _ _ _, _, h => by cases h
  | .block _ _, _, h => by cases h
  | .loop _, _, h => by cases h
  | .label _, _, h => by cases h
  | .scope _, _, h => by cases h
  | .goto _, _, h => by cases h
  | .rangeFunc .., _, h => by cases h
  | .refuse _, _, h => by cases h

/-- Up to the label. -/
noncomputable def execU {P : Program} (E : Env P) (nt N l : Nat) {R : Type} : Code → Ann → State → (Ex → State → Option R) → (State → Option R) → Option R
  | .seq a b, an, st, k, kL => match a with
    | .label _ => kL st
    | a => exec E nt N a an.l st (fun e st' => match e with
      | .normal => execU E nt N l b an.r st' k kL
      | e => k e st')
  | _, _, _, _, _ => none

noncomputable def execJ {P : Program} (E : Env P) (nt N l : Nat) (x : Code) {R : Type} (L : JS) (a1 a2 : Ann) (st : State) (k : Ex → State → Option R) : Option R :=
  match tailL l x with
  | some b => Join (J := tupDen L.rows) (R := R) (execU E nt N l (R := tupDen L.rows ⊕ R) x a1 st (noGoto fun e st' => (k e st').map .inr) (fun st' => (carry st L st').map .inl)) fun s0 =>
      Loop (S := tupDen L.rows) (X := R) (fun s => exec E nt N b (R := tupDen L.rows ⊕ R) a2 (behind st (writes x) L s) (fun e st' => match e with
        | .goto i => bif Nat.beq i l then (carry st L st').map .inl else none
        | e => (k e st').map .inr)) N s0
  | none => none

noncomputable def execT {P : Program} (E : Env P) (nt N l : Nat) (c : Code) {R : Type} (L : JS) (a0 a1 a2 : Ann) (st : State) (k : Ex → State → Option R) : Option R :=
  match c with
  | .seq r (.scope x) => exec E nt N r a0 st (fun e st' => match e with
    | .normal => execJ E nt N l x L a1 a2 st' k
    | e => k e st')
  | _ => none

section
variable {P : Program} {nt N : Nat} {R : Type}
variable {ρ : Nat → Value} {w w0 : World} {H : Hist} {F F0 G : Nat → Prop}

theorem tailL_writes {l : Nat} : {x b : Code} → tailL l x = some b → ∀ t ∈ writes b, t ∈ writes x
  | .seq a y, b, h, t, ht => by
    unfold tailL at h
    split at h
    · obtain ⟨h1, rfl⟩ := bif_some h
      simp [writes, ht]
    · obtain ⟨h1, h2⟩ := bif_eq h
      simp [writes, tailL_writes h2 t ht]
  | .skip, _, h, _, _ => by cases h
  | .ret, _, h, _, _ => by cases h
  | .exit _, _, h, _, _ => by cases h
  | .cond _ _ _, _, h, _, _ => by cases h
  | .region _ _ _, _, h, _, _ => by cases h
  | .block _ _, _, h, _, _ => by cases h
  | .loop _, _, h, _, _ => by cases h
  | .label _, _, h, _, _ => by cases h
  | .scope _, _, h, _, _ => by cases h
  | .goto _, _, h, _, _ => by cases h
  | .rangeFunc .., _, h, _, _ => by cases h
  | .refuse _, _, h, _, _ => by cases h

theorem execU_ok {E : Env P} {l : Nat} {q : R} : (c : Code) → {b : Code} → {a : Ann} → {st : State} → {k : Ex → State → Option R} → {kL : State → Option R} → {H : Hist} → {F : Nat → Prop} → {w : World} → {ρ : Nat → Value} → {Q : Exit → (Nat → Value) → World → Prop} →
    tailL l c = some b → execU E nt N l c a st k kL = some q → Here G w0 F0 H F w ρ st →
    (∀ e st' H' F' w' ρ', k e st' = some q → Then G w0 F0 (writes c) H F w ρ H' F' w' ρ' st' → Q e.exit' ρ' w') →
    (∀ st' H' F' w' ρ', kL st' = some q → Then G w0 F0 (writes c) H F w ρ H' F' w' ρ' st' → wpC P nt b Q ρ' w') → wpC P nt c Q ρ w
  | .seq a y, b, an, st, k, kL, H, F, w, ρ, Q, ht, h, hh, hk, hL => by
    unfold tailL at ht
    unfold execU at h
    split at ht
    · obtain ⟨h1, rfl⟩ := bif_some ht
      exact wpC_seq (fun act hf => wp_label ⟨ρ, hf, hL st H F w ρ h ⟨hh, Keeps.refl H F w, fun _ _ => rfl⟩⟩)
    · rename_i hne
      obtain ⟨h1, h2⟩ := bif_eq ht
      split at h
      · rename_i l'
        exact absurd rfl (hne l')
      refine wpC_seq (exec_ok a h hh fun e st' H' F' w' ρ' g1 g2 => ?_)
      have out : ∀ {e : Ex}, k e st' = some q → Q e.exit' ρ' w' := fun {e} g1 => hk e st' H' F' w' ρ' g1 ⟨g2.here, g2.keeps, fun t ht => g2.same t fun hm => ht (by simp [writes, hm])⟩
      cases e with
      | normal =>
        refine execU_ok y h2 g1 g2.here (fun e st'' H'' F'' w'' ρ'' m1 m2 => ?_) fun st'' H'' F'' w'' ρ'' m1 m2 => ?_
        · exact hk e st'' H'' F'' w'' ρ'' m1 ⟨m2.here, g2.keeps.trans m2.keeps, fun t ht => (m2.same t fun hm => ht (by simp [writes, hm])).trans (g2.same t fun hm => ht (by simp [writes, hm]))⟩
        · exact hL st'' H'' F'' w'' ρ'' m1 ⟨m2.here, g2.keeps.trans m2.keeps, fun t ht => (m2.same t fun hm => ht (by simp [writes, hm])).trans (g2.same t fun hm => ht (by simp [writes, hm]))⟩
      | exit i => exact out g1
      | ret => exact out g1
      | goto i => exact out g1
  | .skip, _, _, _, _, _, _, _, _, _, _, h, _, _, _, _ => by cases h
  | .ret, _, _, _, _, _, _, _, _, _, _, h, _, _, _, _ => by cases h
  | .exit _, _, _, _, _, _, _, _, _, _, _, h, _, _, _, _ => by cases h
  | .cond _ _ _, _, _, _, _, _, _, _, _, _, _, h, _, _, _, _ => by cases h
  | .region _ _ _, _, _, _, _, _, _, _, _, _, _, h, _, _, _, _ => by cases h
  | .block _ _, _, _, _, _, _, _, _, _, _, _, h, _, _, _, _ => by cases h
  | .loop _, _, _, _, _, _, _, _, _, _, _, h, _, _, _, _ => by cases h
  | .label _, _, _, _, _, _, _, _, _, _, _, h, _, _, _, _ => by cases h
  | .scope _, _, _, _, _, _, _, _, _, _, _, h, _, _, _, _ => by cases h
  | .goto _, _, _, _, _, _, _, _, _, _, _, h, _, _, _, _ => by cases h
  | .rangeFunc .., _, _, _, _, _, _, _, _, _, _, h, _, _, _, _ => by cases h
  | .refuse _, _, _, _, _, _, _, _, _, _, _, h, _, _, _, _ => by cases h

theorem execJ_ok {E : Env P} {l : Nat} {x : Code} {L : JS} {a1 a2 : Ann} {q : R} {st : State} {k : Ex → State → Option R} {Q : Exit → (Nat → Value) → World → Prop} (h : execJ E nt N l x L a1 a2 st k = some q) (hh : Here G w0 F0 H F w ρ st)
    (hk : ∀ e st' H' F' w' ρ', k e st' = some q → Then G w0 F0 (writes x) H F w ρ H' F' w' ρ' st' → Q e.exit' ρ' w') : wpC P nt (.scope x) Q ρ w := by
  unfold execJ at h
  split at h
  case h_2 => cases h
  rename_i b hb
  unfold Join at h
  obtain ⟨s, hs, h⟩ := bind_some h
  have hbw := tailL_writes hb
  let I : tupDen L.rows → (Nat → Value) → World → Prop := fun s ρ' w' => ∃ H' F', Here G w0 F0 H' F' w' ρ' (behind st (writes x) L s) ∧ Keeps H F w H' F' w' ∧ ∀ t, t ∉ writes x → ρ' t = ρ t
  let body : tupDen L.rows → Option (tupDen L.rows ⊕ R) := fun s => exec E nt N b (R := tupDen L.rows ⊕ R) a2 (behind st (writes x) L s) (fun e st' => match e with
        | .goto i => bif Nat.beq i l then (carry st L st').map .inl else none
        | e => (k e st').map .inr)
  have pass : ∀ m ρ1 w1, (∃ s, I s ρ1 w1 ∧ Loop body m s = some q) → wpC P nt b (jmpQ l (fun ρ w => ∃ k, k < m ∧ ∃ s, I s ρ w ∧ Loop body k s = some q) Q) ρ1 w1 := by
    rintro m ρ1 w1 ⟨s, ⟨H1, F1, g1, g2, g3⟩, hl⟩
    cases m with
    | zero => cases hl
    | succ m =>
      unfold Loop at hl
      cases hy : body s with
      | none => rw [hy] at hl; cases hl
      | some y =>
        rw [hy] at hl
        refine exec_ok b hy g1 fun e st' H' F' w' ρ' m1 m2 => ?_
        have sm : ∀ t, t ∉ writes x → ρ' t = ρ t := fun t ht => (m2.same t fun hm => ht (hbw t hm)).trans (g3 t ht)
        have out : ∀ {e : Ex}, (k e st').map Sum.inr = some y → Q e.exit' ρ' w' := fun {e} h1 => by
          obtain ⟨r, hr, rfl⟩ := map_inl h1
          obtain rfl := Option.some.inj hl
          exact hk e st' H' F' w' ρ' hr ⟨m2.here, g2.trans m2.keeps, sm⟩
        cases e with
        | normal => exact out (e := .normal) m1
        | exit i => exact out (e := .exit i) m1
        | ret => exact out (e := .ret) m1
        | goto i =>
          obtain ⟨h1, h2⟩ := bif_eq m1
          obtain rfl := beq_true h1
          obtain ⟨j, hj, rfl⟩ := map_inl h2
          obtain ⟨H2, F2, n1, n2⟩ := carry_ok (W := writes x) hj hh m2.here (g2.trans m2.keeps) sm
          exact ⟨rfl, m, Nat.lt_succ_self m, j, ⟨H2, F2, n1, n2, sm⟩, hl⟩
  refine wpC_scope (fun m ρ w => ∃ s, I s ρ w ∧ Loop body m s = some q) (tailL_ok hb) ?_ pass
  refine execU_ok x hb hs hh (fun e st' H' F' w' ρ' m1 m2 => ?_) fun st' H' F' w' ρ' m1 m2 => ?_
  · cases e with
    | goto i => cases m1
    | normal =>
      obtain ⟨r, hr, rfl⟩ := map_inl (show (k .normal st').map Sum.inr = some s from m1)
      obtain rfl := Option.some.inj h
      exact hk .normal st' H' F' w' ρ' hr m2
    | exit i =>
      obtain ⟨r, hr, rfl⟩ := map_inl (show (k (.exit i) st').map Sum.inr = some s from m1)
      obtain rfl := Option.some.inj h
      exact hk (.exit i) st' H' F' w' ρ' hr m2
    | ret =>
      obtain ⟨r, hr, rfl⟩ := map_inl (show (k .ret st').map Sum.inr = some s from m1)
      obtain rfl := Option.some.inj h
      exact hk .ret st' H' F' w' ρ' hr m2
  · obtain ⟨j, hj, rfl⟩ := map_inl m1
    obtain ⟨H2, F2, n1, n2⟩ := carry_ok (W := writes x) hj hh m2.here m2.keeps m2.same
    refine wpC_mono (pass N ρ' w' ⟨j, ⟨H2, F2, n1, n2, m2.same⟩, h⟩) fun e ρ2 w2 hq => ?_
    cases e with
    | goto i => exact ⟨hq.1, hq.2.imp fun m hm => hm.2⟩
    | _ => exact hq

theorem execT_walks {E : Env P} {l : Nat} {c : Code} {L : JS} {a0 a1 a2 : Ann} : Walks P nt c fun st k => execT E nt N l c L a0 a1 a2 st k := by
  intro R q st k H F w ρ G w0 F0 Q h hh hk
  unfold execT at h
  split at h
  case h_2 => cases h
  rename_i r x
  refine wpC_seq (exec_ok r h hh fun e st' H' F' w' ρ' g1 g2 => ?_)
  have out : ∀ {e : Ex}, k e st' = some q → Q e.exit' ρ' w' := fun {e} g1 => hk e st' H' F' w' ρ' g1 ⟨g2.here, g2.keeps, fun t ht => g2.same t fun hm => ht (by simp [writes, hm])⟩
  cases e with
  | normal =>
    refine execJ_ok g1 g2.here fun e st'' H'' F'' w'' ρ'' m1 m2 => ?_
    exact hk e st'' H'' F'' w'' ρ'' m1 ⟨m2.here, g2.keeps.trans m2.keeps, fun t ht => (m2.same t fun hm => ht (by simp [writes, hm])).trans (g2.same t fun hm => ht (by simp [writes, hm]))⟩
  | exit i => exact out g1
  | ret => exact out g1
  | goto i => exact out g1

theorem fn_okJ {E : Env P} {f : FuncId} {fn : Func} {c : Code} {rs : List ResultVar} {N l : Nat} {L : JS} {a0 a1 a2 : Ann} {sg : Sig} (hf : P.funcs[f]? = some fn) (hn : (fn.name == "runtime.NumGoroutine") = false) (hb : fn.body = some c) (hrs : fn.results.toList = rs)
    (hidx : idxS 0 sg.inn.slots = true) (hlen : Nat.ble sg.inn.slots.length fn.ntmps = true) (hres : Nat.beq rs.length sg.out.slots.length = true)
    (hfn : ∀ x, sg.fn x = execT E fn.ntmps N l c L a0 a1 a2 (init sg.inn x) (resK E.T rs sg.inn.nxt sg.out)) : FnOK P f sg :=
  fn_okW (E := E) (run := fun st k => execT E fn.ntmps N l c L a0 a1 a2 st k) execT_walks hf hn hb hrs hidx hlen hres hfn
end
end Go.Proofs.YtjeeligfdpociaaGreat
