/- Code, walked by a function: joins, loops, results; a function's contract. -/
/- A function's contract, from the walk of its code. -/
import Derived.Test.YtjeeligfdpociaaGreatDraw4
import Derived.Scope
namespace Go.Proofs.YtjeeligfdpociaaGreat
open Go Go.RowKit

inductive Ex where
  | normal
  | exit (id : Nat)
  | ret
  | goto (l : Nat)

def Ex.exit' : Ex → Exit
  | .normal => .normal
  | .exit id => .exit id
  | .ret => .ret
  | .goto l => .goto l

/-- No jump leaves a scope that is walked straight. -/
def noGoto {R : Type} (k : Ex → State → Option R) : Ex → State → Option R
  | .goto _, _ => none
  | e, st => k e st

/-- Where ways meet, and what is carried there. -/
inductive Ann where
  | nil
  | two (a b : Ann)
  | join (J : JS) (a b : Ann)    -- other ways out besides
  | meet (J : JS) (a b : Ann)    -- no other way out
  | loop (L : JS) (a : Ann)

def Ann.l : Ann → Ann
  | .two a _ => a
  | _ => .nil
def Ann.r : Ann → Ann
  | .two _ b => b
  | _ => .nil

/-- The slots that code writes to. -/
def writesO : List Oper → List Nat
  | [] => []
  | o :: l => match o.dst with
    | some d => d :: writesO l
    | none => writesO l
def writes : Code → List Nat
  | .region _ ops _ => writesO ops.toList
  | .seq a b => writes a ++ writes b
  | .cond _ a b => writes a ++ writes b
  | .block _ a => writes a
  | .loop a => writes a
  | .scope a => writes a
  | _ => []

def deadS : List Nat → List (Nat × Desc) → List (Nat × Desc)
  | [], l => l
  | t :: ts, l => (t, .dead) :: deadS ts l

def keysO : List (Nat × OS) → List Nat
  | [] => []
  | (j, _) :: l => j :: keysO l

def frameOf (st : State) (J : JS) : List (Nat × (Nat × Th)) := del (keysO J.objs ++ J.drop) st.objs
/-- The state behind a meeting. -/
def behind (st : State) (W : List Nat) (J : JS) (x : tupDen J.rows) : State :=
  { slots := (resS J.slots (ofTup _ x)).1 ++ deadS W st.slots, objs := resO st.nxt J.objs (resS J.slots (ofTup _ x)).2 ++ frameOf st J, nxt := J.nxt }
def carry0 (st : State) (J : JS) (st1 : State) : Option (tupDen J.rows) :=
  match packV st.nxt (frameOf st J) J st1.slots st1.objs with
  | some (x, _) => some x
  | none => none
/-- The inner slices of what is deep are read alone from now on. -/
def hardE (ob : Nat → Option (Nat × Th)) (n o : Nat) : Option Eff :=
  match ob o with
  | some (_, .deep T d l none) => some { dst := .dead, eat := [o], make := [(o, (n, .own T d.row l))] }
  | _ => none
/-- Where a meeting wants a plain slice of the call's own, the inner slices are read alone. -/
def hardL (st : State) : List (Nat × OS) → State
  | [] => st
  | (j, .own _ _) :: os => match hardE (find st.objs) st.nxt j with
    | some e => hardL (st.apply none e) os
    | none => hardL st os
  | _ :: os => hardL st os
/-- Where a meeting wants a place that is read, what the place lies in is read alone. -/
noncomputable def atL {R : Type} (st : State) (k : State → Option R) : List (Nat × SS) → Option R
  | [] => k st
  | (t, .at _) :: ss => match find st.slots t with
    | some (.dlm o d i [] 0) => match frzAll st.objs [o] with
      | some objs1 => match find objs1 o with
        | some (_, .fdeep _ d' l) => bif Nat.beq d.low.size d'.row.size then (idx l i).bind fun x => atL { slots := (t, .at d'.row x) :: st.slots, objs := objs1, nxt := st.nxt } k ss else none
        | _ => none
      | none => none
    | _ => atL st k ss
  | _ :: ss => atL st k ss
noncomputable def carry (st : State) (J : JS) (st1 : State) : Option (tupDen J.rows) := atL (hardL (mendS st1) J.objs) (carry0 st J) J.slots

/-- Ways that meet, and others that do not. -/
def Join {J R : Type} (m : Option (J ⊕ R)) (k : J → Option R) : Option R := m.bind fun s => match s with
  | .inl j => k j
  | .inr r => some r

noncomputable def exec {P : Program} (E : Env P) (nt N : Nat) : Code → {R : Type} → Ann → State → (Ex → State → Option R) → Option R
  | .skip, _, _, st, k => k .normal st
  | .label _, _, _, st, k => k .normal st
  | .scope x, _, a, st, k => exec E nt N x a.l st (noGoto k)
  | .goto l, _, _, st, k => k (.goto l) st
  | .ret, _, _, st, k => k .ret st
  | .exit id, _, _, st, k => k (.exit id) st
  | .cond c x y, _, a, st, k => match rdo st.slots c with
    | some D => match asBool D with
      | some b => if b = true then exec E nt N x a.l st k else exec E nt N y a.r st k
      | none => none
    | none => none
  | .region _ ops draw, _, _, st, k => bif draw then druns E nt ops ops.toList st [] (k .normal) else runs E nt ops ops.toList [] st (k .normal)
  | .seq x y, R, a, st, k => match a with
    | .join J a1 a2 => Join (exec E nt N x (R := tupDen J.rows ⊕ R) a1 st (fun e st' => match e with
        | .normal => (carry st J st').map .inl
        | e => (k e st').map .inr)) fun j => exec E nt N y a2 (behind st (writes x) J j) k
    | .meet J a1 a2 => (exec E nt N x (R := tupDen J.rows) a1 st (fun e st' => match e with
        | .normal => carry st J st'
        | _ => none)).bind fun j => exec E nt N y a2 (behind st (writes x) J j) k
    | a => exec E nt N x a.l st (fun e st' => match e with
        | .normal => exec E nt N y a.r st' k
        | e => k e st')
  | .block id x, R, a, st, k => match a with
    | .join J a1 _ => Join (exec E nt N x (R := tupDen J.rows ⊕ R) a1 st (fun e st' => match e with
        | .normal => (carry st J st').map .inl
        | .exit i => bif Nat.beq i id then (carry st J st').map .inl else (k (.exit i) st').map .inr
        | e => (k e st').map .inr)) fun j => k .normal (behind st (writes x) J j)
    | .meet J a1 _ => (exec E nt N x (R := tupDen J.rows) a1 st (fun e st' => match e with
        | .normal => carry st J st'
        | .exit i => bif Nat.beq i id then carry st J st' else none
        | _ => none)).bind fun j => k .normal (behind st (writes x) J j)
    | a => exec E nt N x a.l st (fun e st' => match e with
        | .exit i => bif Nat.beq i id then k .normal st' else k (.exit i) st'
        | e => k e st')
  | .loop x, R, a, st, k => match a with
    | .loop L a1 => match carry st L st with
      | some s0 => Loop (S := tupDen L.rows) (X := R) (fun s => exec E nt N x (R := tupDen L.rows ⊕ R) a1 (behind st (writes x) L s) (fun e st' => match e with
          | .normal => (carry st L st').map .inl
          | e => (k e st').map .inr)) N s0
      | none => none
    | _ => none
  | _, _, _, _, _ => none

section
variable {P : Program} {nt N : Nat} {R : Type}
variable {ρ : Nat → Value} {w w0 : World} {H : Hist} {F F0 G : Nat → Prop}

theorem find_deadS {W : List Nat} {l : List (Nat × Desc)} {t : Nat} {d : Desc} (h : find (deadS W l) t = some d) : d = .dead ∨ (t ∉ W ∧ find l t = some d) := by
  induction W with
  | nil => exact .inr ⟨by simp, h⟩
  | cons s W ih =>
    have h' : find ((s, Desc.dead) :: deadS W l) t = some d := h
    rw [find_cons] at h'
    split at h'
    · exact .inl (Option.some.inj h').symm
    · rename_i e
      rcases ih h' with h1 | ⟨h1, h2⟩
      · exact .inl h1
      · exact .inr ⟨by simp [h1, Ne.symm e], h2⟩

/-- A meeting. -/
theorem carry0_ok {st st1 : State} {W : List Nat} {J : JS} {x : tupDen J.rows} {H1 : Hist} {F1 : Nat → Prop} {w1 : World} {ρ1 : Nat → Value} (h : carry0 st J st1 = some x) (hh : Here G w0 F0 H F w ρ st) (hh1 : Here G w0 F0 H1 F1 w1 ρ1 st1) (hk : Keeps H F w H1 F1 w1)
    (hρ : ∀ t, t ∉ W → ρ1 t = ρ t) : ∃ H2 F2, Here G w0 F0 H2 F2 w1 ρ1 (behind st W J x) ∧ Keeps H F w H2 F2 w1 := by
  unfold carry0 at h
  split at h
  case h_2 => cases h
  rename_i _ y rest hp
  obtain ⟨bs, objs1⟩ := rest
  obtain rfl := Option.some.inj h
  obtain ⟨F2, H2, a1, a2, a3, _, a5, _, a6, a7, a8⟩ := packV_ok (U' := UU G w0) hp hh.sat.ob hh.sat.all hk hh1.sat.ob hh1.sat.slot
  have hst : Step F1 w1 F2 w1 := fun b hb => ⟨a2 b hb, rfl⟩
  have hob := a8 hh1.sat.ob.new (fun o s t v k _ h2 h3 h4 => by
    obtain ⟨v', hv', hin⟩ := a1.obj _ _ _ h2
    rw [h3] at hv'
    obtain rfl := Option.some.inj hv'
    exact hin.use k h4) (fun o s t v k h2 h3 h4 => by
    have h5 := (find_del.1 h2).2
    obtain ⟨v', hv', hin⟩ := hh.sat.ob.obj _ _ _ h5
    rw [hk.hist.val _ _ hv'] at h3
    obtain rfl := Option.some.inj h3
    exact hin.use k (by rwa [hk.hist.sub _ _ hin.con] at h4))
  refine ⟨H2, F2, ⟨⟨fun t d hd => ?_, hob, a6⟩, ⟨hh1.glob.ext, fun b hb => a2 b (hh1.glob.le b hb), fun b hb => ?_⟩⟩, ⟨a5, fun b hb => ⟨a2 b (hk.step b hb).1, (hk.step b hb).2⟩⟩⟩
  · have hd' : find ((resS J.slots (ofTup J.rows y)).1 ++ deadS W st.slots) t = some d := hd
    rw [find_append] at hd'
    cases hm : find (resS J.slots (ofTup J.rows y)).1 t with
    | some d' =>
      rw [hm] at hd'
      obtain rfl := Option.some.inj hd'
      exact a7 t _ hm
    | none =>
      rw [hm, Option.none_or] at hd'
      rcases find_deadS hd' with rfl | ⟨h1, h2⟩
      · trivial
      · rw [hρ t h1]
        exact (hh.sat.slot t d h2).keep a5 fun b hb => ⟨a2 b (hk.step b hb).1, (hk.step b hb).2⟩
  · rcases a3 b hb with h1 | h1
    · exact hh1.glob.new b h1
    · exact .inr (hh1.sat.ob.eaten_use b h1)
theorem hard_post {U : Nat → Prop} {ob : Nat → Option (Nat × Th)} {n : Nat} (hs : ObSat U H F w ob n) {o : Nat} {e : Eff} (h : hardE ob n o = some e) : PostE H F w ob n e undef w := by
  unfold hardE at h
  split at h
  case h_2 => cases h
  rename_i s T d l hob
  obtain rfl := Option.some.inj h
  obtain ⟨v, hv, hin⟩ := hs.obj _ _ _ hob
  obtain ⟨lh, Ss, ⟨xs, hx, hxr⟩, h2, h3, h4⟩ := (show DSl F w T d.low (HRel H F w d none) v l (H.sub s) from hin.ok)
  have hn : ∀ k, H.sub s k → ¬ F k := hin.no
  have hF1 : Own 0 (fun b => F b ∨ ∃ i, i < l.length ∧ Ss i b) w T d.row v l := by
    refine ⟨fun k hk hF => ?_, xs, ?_, fun i hi => ?_⟩
    · rcases hF with hF | ⟨i, hi, hm⟩
      · exact hn k (h4.mine k hk) hF
      · exact h4.out i k hi hm hk
    · rw [← d.size, ← h2]; exact hx
    · have hi' : i < lh.length := by omega
      have := DEl.freeze (h3 i hi' hi) (fun k hk => hn k (h4.part hi k hk)) (hxr i hi')
      rw [← d.size]
      exact this.step fun b hb => ⟨hb.imp id fun hb => ⟨i, hi, hb⟩, rfl⟩
  have hf := hs.fresh n (Nat.le_refl _) (by omega)
  have heat : ∀ k, H.sub s k → eaten H ob [o] k := fun k hk => ⟨o, by simp, s, _, v, hob, hv, hk⟩
  refine ⟨H.setCon n (.own T d.row l), fun b => F b ∨ ∃ i, i < l.length ∧ Ss i b, ⟨⟨fun _ _ h => h, fun s' t h => ?_, fun s' t h => ?_⟩, ⟨rfl, rfl, rfl, Nat.le_refl _, fun _ _ _ => rfl⟩, fun _ h => .inl h, fun b hb => ?_, fun b hb => ?_⟩, fun m hm => ⟨id, fun h => ?_⟩, trivial, ⟨fun o' s' q hq => ?_, fun o1 o2 s1 s2 q1 q2 u1 u2 hne g1 g2 => ?_⟩, fun o' h => ?_⟩
  · have : s' ≠ n := fun e => by rw [e, hf.2] at h; cases h
    simp [Hist.setCon, this, h]
  · rfl
  · rcases hb with hb | ⟨i, hi, hb⟩
    · exact .inl hb
    · exact .inr (.inr (heat b (h4.part hi b hb)))
  · rcases hb with hb | ⟨i, hi, hb⟩
    · exact hs.lt b hb
    · exact hin.lt b (h4.part hi b hb)
  · simp [Hist.setCon, show m ≠ n from by omega, h]
  · obtain ⟨rfl, e⟩ := find_one hq
    obtain ⟨rfl, rfl⟩ := Prod.mk.inj e
    refine ⟨v, hv, hin.one, by simp [Hist.setCon, Th.base], hF1.2, fun k hk => ⟨hF1.1 k hk, hin.lt k (h4.mine k hk), .inr (heat k (h4.mine k hk))⟩⟩
  · exact absurd ((find_one g1).1.trans (find_one g2).1.symm) hne
  · left
    obtain ⟨y, hy⟩ := Option.isSome_iff_exists.1 h
    rw [(find_one hy).1]
    simp
theorem Here.hardL : (os : List (Nat × OS)) → {st : State} → {H : Hist} → {F : Nat → Prop} → Here G w0 F0 H F w ρ st → ∃ H' F', Here G w0 F0 H' F' w ρ (hardL st os) ∧ Keeps H F w H' F' w
  | [], _, H, F, h => ⟨H, F, h, Keeps.refl H F w⟩
  | (j, .own _ _) :: os, st, H, F, h => by
    unfold Go.Proofs.YtjeeligfdpociaaGreat.hardL
    split
    · rename_i e he
      obtain ⟨H', F', hp⟩ := hard_post h.sat.ob he
      have hs := h.sat.apply (d := none) hp
      obtain ⟨H2, F2, h2, k2⟩ := Here.hardL os (st := st.apply none e) ⟨hs, h.glob.evo hp.evo h.sat.ob.eaten_use⟩
      exact ⟨H2, F2, h2, (Keeps.ofEvo hp.evo h.sat.ob.lt h.sat.ob.eaten_no).trans k2⟩
    · exact Here.hardL os h
  | (_, .box ..) :: os, _, _, _, h => Here.hardL os h
  | (_, .map ..) :: os, _, _, _, h => Here.hardL os h
  | (_, .deep ..) :: os, _, _, _, h => Here.hardL os h
  | (_, .dmap ..) :: os, _, _, _, h => Here.hardL os h
theorem Here.atL {R : Type} {k : State → Option R} {q : R} : (ss : List (Nat × SS)) → {st : State} → {H : Hist} → {F : Nat → Prop} → Here G w0 F0 H F w ρ st → atL st k ss = some q → ∃ st2 H' F', k st2 = some q ∧ Here G w0 F0 H' F' w ρ st2 ∧ Keeps H F w H' F' w
  | [], st, H, F, h, hk => ⟨st, H, F, hk, h, Keeps.refl H F w⟩
  | (t, .at r) :: ss, st, H, F, h, hk => by
    unfold Go.Proofs.YtjeeligfdpociaaGreat.atL at hk
    split at hk
    · rename_i o d i hsl
      split at hk
      case h_2 => cases hk
      rename_i objs1 hfz
      obtain ⟨F1, h1, k1⟩ := h.frz hfz
      split at hk
      case h_2 => cases hk
      rename_i s1 T1 d' l hob
      obtain ⟨hsz, hk⟩ := bif_eq hk
      have hsz := Nat.eq_of_beq_eq_true hsz
      obtain ⟨x, hx, hkx⟩ := bind_some hk
      obtain ⟨j, rfl, hj, hjx⟩ := idx_some hx
      obtain ⟨g, o0, q0, m, cap, hv, hq, hval⟩ := h1.sat.slot t _ hsl
      obtain ⟨v, hv', hin⟩ := h1.sat.ob.obj _ _ _ hob
      rw [hv] at hv'
      obtain rfl := Option.some.inj hv'
      obtain ⟨A, cap', e1, _, _, hel⟩ := (show Rep F1 w (.slice d'.row) [_] l from hin.ok)
      obtain ⟨b, off, es, hA, hFb, hlen, hcell, hrep⟩ := hel j hj
      simp only [List.cons.injEq, Value.slice.injEq, and_true] at e1
      obtain ⟨e1, _, _⟩ := e1
      rw [← e1] at hA
      simp only [Option.some.injEq, Addr.mk.injEq, and_true] at hA
      obtain ⟨rfl, rfl⟩ := hA
      have hat : DescOK H F1 w (.at d'.row x) (ρ t) := by
        have e : j = q0 := by omega
        subst e
        refine ⟨g, o0 + j * d.low.size + 0, hval, hFb, es, hlen, fun jj u hu => ?_, by rw [← hjx]; exact hrep⟩
        rw [hsz]
        exact hcell jj u hu
      obtain ⟨st2, H2, F2, g1, g2, g3⟩ := Here.atL ss (st := { slots := (t, .at d'.row x) :: st.slots, objs := objs1, nxt := st.nxt }) ⟨⟨fun t' q' hq' => by
        have hq' : find ((t, Desc.at d'.row x) :: st.slots) t' = some q' := hq'
        rw [find_cons] at hq'
        by_cases e : t = t'
        · subst e
          rw [if_pos rfl] at hq'
          obtain rfl := Option.some.inj hq'
          exact hat
        · rw [if_neg e] at hq'
          exact h1.sat.slot t' q' hq', h1.sat.ob, h1.sat.all⟩, h1.glob⟩ hkx
      exact ⟨st2, H2, F2, g1, g2, k1.trans g3⟩
    · exact Here.atL ss h hk
  | (_, .val ..) :: ss, _, _, _, h, hk => Here.atL ss h hk
  | (_, .ptr ..) :: ss, _, _, _, h, hk => Here.atL ss h hk
  | (_, .undef) :: ss, _, _, _, h, hk => Here.atL ss h hk
  | (_, .fn ..) :: ss, _, _, _, h, hk => Here.atL ss h hk
  | (_, .ifc ..) :: ss, _, _, _, h, hk => Here.atL ss h hk
theorem carry_ok {st st1 : State} {W : List Nat} {J : JS} {x : tupDen J.rows} {H1 : Hist} {F1 : Nat → Prop} {w1 : World} {ρ1 : Nat → Value} (h : carry st J st1 = some x) (hh : Here G w0 F0 H F w ρ st) (hh1 : Here G w0 F0 H1 F1 w1 ρ1 st1) (hk : Keeps H F w H1 F1 w1)
    (hρ : ∀ t, t ∉ W → ρ1 t = ρ t) : ∃ H2 F2, Here G w0 F0 H2 F2 w1 ρ1 (behind st W J x) ∧ Keeps H F w H2 F2 w1 := by
  obtain ⟨H1', F1', hh1', hk'⟩ := hh1.mendS
  obtain ⟨H2', F2', hh2', hk2⟩ := hh1'.hardL J.objs
  unfold carry at h
  obtain ⟨st2, H3', F3', h3, hh3, hk3⟩ := hh2'.atL J.slots h
  exact carry0_ok h3 hh hh3 (((hk.trans hk').trans hk2).trans hk3) hρ

theorem writesO_mem {l : List Oper} {o : Oper} {t : Nat} (ho : o ∈ l) (hd : o.dst = some t) : t ∈ writesO l := by
  induction l with
  | nil => cases ho
  | cons p l ih =>
    rcases List.mem_cons.1 ho with rfl | h
    · unfold writesO; rw [hd]; exact List.mem_cons_self
    · unfold writesO
      split
      · exact List.mem_cons_of_mem _ (ih h)
      · exact ih h

/-- What a way on may count on. -/
structure Then (G : Nat → Prop) (w0 : World) (F0 : Nat → Prop) (W : List Nat) (H : Hist) (F : Nat → Prop) (w : World) (ρ : Nat → Value) (H' : Hist) (F' : Nat → Prop) (w' : World) (ρ' : Nat → Value) (st' : State) : Prop where
  here : Here G w0 F0 H' F' w' ρ' st'
  keeps : Keeps H F w H' F' w'
  same : ∀ t, t ∉ W → ρ' t = ρ t

theorem map_inl {α β : Type} {o : Option α} {f : α → β} {r : β} (h : o.map f = some r) : ∃ x, o = some x ∧ f x = r := Option.map_eq_some_iff.1 h

theorem exec_ok {E : Env P} : (c : Code) → {R : Type} → {q : R} → {a : Ann} → {st : State} → {k : Ex → State → Option R} → {H : Hist} → {F : Nat → Prop} → {w : World} → {ρ : Nat → Value} → {Q : Exit → (Nat → Value) → World → Prop} →
    exec E nt N c a st k = some q → Here G w0 F0 H F w ρ st →
    (∀ e st' H' F' w' ρ', k e st' = some q → Then G w0 F0 (writes c) H F w ρ H' F' w' ρ' st' → Q e.exit' ρ' w') → wpC P nt c Q ρ w
  | .skip, R, q, a, st, k, H, F, w, ρ, Q, h, hh, hk => wpC_skip (hk .normal st H F w ρ h ⟨hh, Keeps.refl H F w, fun _ _ => rfl⟩)
  | .ret, R, q, a, st, k, H, F, w, ρ, Q, h, hh, hk => wpC_ret (hk .ret st H F w ρ h ⟨hh, Keeps.refl H F w, fun _ _ => rfl⟩)
  | .exit id, R, q, a, st, k, H, F, w, ρ, Q, h, hh, hk => wpC_exit (hk (.exit id) st H F w ρ h ⟨hh, Keeps.refl H F w, fun _ _ => rfl⟩)
  | .cond c x y, R, q, a, st, k, H, F, w, ρ, Q, h, hh, hk => by
    unfold exec at h
    split at h
    case h_2 => cases h
    rename_i D hD
    split at h
    case h_2 => cases h
    rename_i b hb
    have hv := asBool_ok hb (rdo_ok hh.sat.ob.gl hh.sat.slot _ _ hD)
    split at h
    · rename_i e
      subst e
      exact wpC_true hv (exec_ok x h hh fun e st' H' F' w' ρ' h1 h2 => hk e st' H' F' w' ρ' h1 ⟨h2.here, h2.keeps, fun t ht => h2.same t fun hm => ht (by simp [writes, hm])⟩)
    · rename_i e
      have e : b = false := by cases b <;> simp_all
      subst e
      exact wpC_false hv (exec_ok y h hh fun e st' H' F' w' ρ' h1 h2 => hk e st' H' F' w' ρ' h1 ⟨h2.here, h2.keeps, fun t ht => h2.same t fun hm => ht (by simp [writes, hm])⟩)
  | .region id ops draw, R, q, a, st, k, H, F, w, ρ, Q, h, hh, hk => by
    unfold exec at h
    cases draw with
    | true =>
      rw [cond_true] at h
      exact draw_ok E.mix h hh fun st' H' F' w' ρ' h1 h2 h3 h4 => hk .normal st' H' F' w' ρ' h1 ⟨h2, h3, fun t ht => h4 t fun o ho e => ht (writesO_mem ho e)⟩
    | false =>
      rw [cond_false] at h
      have := runs_ok (K := fun ρ w => Q .normal ρ w) (ops := ops) (nt := nt) h (fun _ _ h => by cases h) hh fun st' H' F' w' ρ' h1 h2 h3 h4 => hk .normal st' H' F' w' ρ' h1 ⟨h2, h3, fun t ht => h4 t fun o ho e => ht (writesO_mem ho e)⟩
      have h2 := wpC_region (id := id) (l := ops.toList) (P := P) (n := nt) (Q := Q) (ρ := ρ) (w := w) (by rw [Array.toArray_toList]; exact this)
      rw [Array.toArray_toList] at h2
      exact h2
  | .seq x y, R, q, a, st, k, H, F, w, ρ, Q, h, hh, hk => by
    have fin : ∀ {H1 : Hist} {F1 : Nat → Prop} {w1 : World} {ρ1 : Nat → Value} {st1 : State} {a2 : Ann}, exec E nt N y a2 st1 k = some q → Here G w0 F0 H1 F1 w1 ρ1 st1 → Keeps H F w H1 F1 w1 → (∀ t, t ∉ writes x → ρ1 t = ρ t) → wpC P nt y Q ρ1 w1 := by
      intro H1 F1 w1 ρ1 st1 a2 g1 g2 g3 g4
      exact exec_ok y g1 g2 fun e st' H' F' w' ρ' h1 h2 => hk e st' H' F' w' ρ' h1 ⟨h2.here, g3.trans h2.keeps, fun t ht => (h2.same t fun hm => ht (by simp [writes, hm])).trans (g4 t fun hm => ht (by simp [writes, hm]))⟩
    have out : ∀ {e : Ex} {st' : State} {H' : Hist} {F' : Nat → Prop} {w' : World} {ρ' : Nat → Value}, k e st' = some q → Then G w0 F0 (writes x) H F w ρ H' F' w' ρ' st' → Q e.exit' ρ' w' := by
      intro e st' H' F' w' ρ' g1 g2
      exact hk e st' H' F' w' ρ' g1 ⟨g2.here, g2.keeps, fun t ht => g2.same t fun hm => ht (by simp [writes, hm])⟩
    unfold exec at h
    split at h
    · rename_i J a1 a2
      unfold Join at h
      obtain ⟨s, hs, h⟩ := bind_some h
      refine wpC_seq (exec_ok x hs hh fun e st' H' F' w' ρ' h1 h2 => ?_)
      cases e with
      | normal =>
        obtain ⟨j, hj, rfl⟩ := map_inl h1
        obtain ⟨H2, F2, g1, g2⟩ := carry_ok (W := writes x) hj hh h2.here h2.keeps h2.same
        exact fin h g1 g2 h2.same
      | exit id =>
        obtain ⟨r, hr, rfl⟩ := map_inl h1
        obtain rfl := Option.some.inj h
        exact out hr h2
      | ret =>
        obtain ⟨r, hr, rfl⟩ := map_inl h1
        obtain rfl := Option.some.inj h
        exact out hr h2
      | goto l =>
        obtain ⟨r, hr, rfl⟩ := map_inl h1
        obtain rfl := Option.some.inj h
        exact out hr h2
    · rename_i J a1 a2
      obtain ⟨s, hs, h⟩ := bind_some h
      refine wpC_seq (exec_ok x hs hh fun e st' H' F' w' ρ' h1 h2 => ?_)
      cases e with
      | normal =>
        obtain ⟨H2, F2, g1, g2⟩ := carry_ok (W := writes x) h1 hh h2.here h2.keeps h2.same
        exact fin h g1 g2 h2.same
      | exit id => cases h1
      | ret => cases h1
      | goto l => cases h1
    · refine wpC_seq (exec_ok x h hh fun e st' H' F' w' ρ' h1 h2 => ?_)
      cases e with
      | normal => exact fin h1 h2.here h2.keeps h2.same
      | exit id => exact out h1 h2
      | ret => exact out h1 h2
      | goto l => exact out h1 h2
  | .block id x, R, q, a, st, k, H, F, w, ρ, Q, h, hh, hk => by
    have hw : writes (.block id x) = writes x := rfl
    rw [hw] at hk
    have toB : ∀ {e : Ex} {ρ' : Nat → Value} {w' : World}, (match e with | .exit i => if i = id then Q .normal ρ' w' else Q (.exit i) ρ' w' | e => Q e.exit' ρ' w') → inB id Q e.exit' ρ' w' := by
      intro e ρ' w' g
      cases e with
      | normal => exact g
      | ret => exact g
      | goto l => exact g
      | exit i =>
        by_cases e : i = id
        · subst e
          simp only [if_pos] at g
          exact inB_same g
        · simp only [if_neg e] at g
          refine inB_other ?_ g
          cases hb : Nat.beq i id with
          | false => rfl
          | true => exact absurd (beq_true hb) e
    have beq_ne : ∀ {i : Nat}, i ≠ id → Nat.beq i id = false := fun {i} e => by
      cases hb : Nat.beq i id with
      | false => rfl
      | true => exact absurd (beq_true hb) e
    unfold exec at h
    split at h
    · rename_i J a1 a2
      unfold Join at h
      obtain ⟨s, hs, h⟩ := bind_some h
      refine wpC_block (exec_ok x hs hh fun e st' H' F' w' ρ' h1 h2 => toB ?_)
      have inn : (carry st J st').map Sum.inl = some s → Q .normal ρ' w' := fun h1 => by
        obtain ⟨j, hj, rfl⟩ := map_inl h1
        obtain ⟨H2, F2, g1, g2⟩ := carry_ok (W := writes x) hj hh h2.here h2.keeps h2.same
        exact hk .normal _ H2 F2 w' ρ' h ⟨g1, g2, h2.same⟩
      have out : ∀ {e : Ex}, (k e st').map Sum.inr = some s → Q e.exit' ρ' w' := fun {e} h1 => by
        obtain ⟨r, hr, rfl⟩ := map_inl h1
        obtain rfl := Option.some.inj h
        exact hk e st' H' F' w' ρ' hr h2
      cases e with
      | normal => exact inn h1
      | exit i =>
        show if i = id then _ else _
        by_cases e : i = id
        · subst e
          rw [if_pos rfl]
          refine inn ?_
          simpa using h1
        · rw [if_neg e]
          simp only [beq_ne e, cond_false] at h1
          exact out (e := .exit i) h1
      | ret => exact out (e := .ret) h1
      | goto l => exact out (e := .goto l) h1
    · rename_i J a1 a2
      obtain ⟨s, hs, h⟩ := bind_some h
      refine wpC_block (exec_ok x hs hh fun e st' H' F' w' ρ' h1 h2 => toB ?_)
      have inn : carry st J st' = some s → Q .normal ρ' w' := fun h1 => by
        obtain ⟨H2, F2, g1, g2⟩ := carry_ok (W := writes x) h1 hh h2.here h2.keeps h2.same
        exact hk .normal _ H2 F2 w' ρ' h ⟨g1, g2, h2.same⟩
      cases e with
      | normal => exact inn h1
      | exit i =>
        show if i = id then _ else _
        by_cases e : i = id
        · subst e
          rw [if_pos rfl]
          refine inn ?_
          simpa using h1
        · simp only [beq_ne e, cond_false] at h1
          cases h1
      | ret => cases h1
      | goto l => cases h1
    · refine wpC_block (exec_ok x h hh fun e st' H' F' w' ρ' h1 h2 => toB ?_)
      cases e with
      | normal => exact hk .normal st' H' F' w' ρ' h1 h2
      | exit i =>
        show if i = id then _ else _
        by_cases e : i = id
        · subst e
          rw [if_pos rfl]
          refine hk .normal st' H' F' w' ρ' ?_ h2
          simpa using h1
        · rw [if_neg e]
          simp only [beq_ne e, cond_false] at h1
          exact hk (.exit i) st' H' F' w' ρ' h1 h2
      | ret => exact hk .ret st' H' F' w' ρ' h1 h2
      | goto l => exact hk (.goto l) st' H' F' w' ρ' h1 h2
  | .loop x, R, q, a, st, k, H, F, w, ρ, Q, h, hh, hk => by
    have hw : writes (.loop x) = writes x := rfl
    rw [hw] at hk
    unfold exec at h
    split at h
    case h_2 => cases h
    rename_i L a1
    split at h
    case h_2 => cases h
    rename_i s0 hs0
    refine wpC_loop (fun s ρ' w' => ∃ H' F', Here G w0 F0 H' F' w' ρ' (behind st (writes x) L s) ∧ Keeps H F w H' F' w' ∧ ∀ t, t ∉ writes x → ρ' t = ρ t) h ?_ ?_
    · obtain ⟨H2, F2, g1, g2⟩ := carry_ok (W := writes x) hs0 hh hh (Keeps.refl H F w) fun _ _ => rfl
      exact ⟨H2, F2, g1, g2, fun _ _ => rfl⟩
    · rintro s ρ' w' y ⟨H', F', g1, g2, g3⟩ hy
      refine exec_ok x hy g1 fun e st' H'' F'' w'' ρ'' h1 h2 => ?_
      have sm : ∀ t, t ∉ writes x → ρ'' t = ρ t := fun t ht => (h2.same t ht).trans (g3 t ht)
      have out : ∀ {e : Ex}, e ≠ .normal → (k e st').map Sum.inr = some y → LoopQ (fun s ρ' w' => ∃ H' F', Here G w0 F0 H' F' w' ρ' (behind st (writes x) L s) ∧ Keeps H F w H' F' w' ∧ ∀ t, t ∉ writes x → ρ' t = ρ t) Q q y e.exit' ρ'' w'' := fun {e} he h1 => by
        obtain ⟨r, hr, rfl⟩ := map_inl h1
        refine ⟨by cases e <;> simp_all [Ex.exit'], fun hq => ?_⟩
        subst hq
        exact hk e st' H'' F'' w'' ρ'' hr ⟨h2.here, g2.trans h2.keeps, sm⟩
      cases e with
      | normal =>
        obtain ⟨j, hj, rfl⟩ := map_inl h1
        obtain ⟨H2, F2, m1, m2⟩ := carry_ok (W := writes x) hj hh h2.here (g2.trans h2.keeps) sm
        exact ⟨rfl, H2, F2, m1, m2, sm⟩
      | exit i => exact out (e := .exit i) (by simp) h1
      | ret => exact out (e := .ret) (by simp) h1
      | goto l => exact out (e := .goto l) (by simp) h1
  | .label l, R, q, a, st, k, H, F, w, ρ, Q, h, hh, hk => fun act hf => wp_label ⟨ρ, hf, hk .normal st H F w ρ h ⟨hh, Keeps.refl H F w, fun _ _ => rfl⟩⟩
  | .scope x, R, q, a, st, k, H, F, w, ρ, Q, h, hh, hk => by
    have h1 := exec_ok (Q := fun e ρ w => match e with | .goto _ => False | e => Q e ρ w) x (show exec E nt N x a.l st (noGoto k) = some q from h) hh fun e st' H' F' w' ρ' h1 h2 => by
      cases e with
      | goto l => cases h1
      | _ => exact hk _ st' H' F' w' ρ' h1 h2
    intro act hf
    refine wp_scope_straight (wp_mono (h1 act hf) fun e a' w' ⟨ρ', hf', hh'⟩ => ?_)
    cases e <;> first
      | exact hh'.elim
      | exact ⟨ρ', hf', hh'⟩
  | .goto l, R, q, a, st, k, H, F, w, ρ, Q, h, hh, hk => fun act hf => wp_goto ⟨ρ, hf, hk (.goto l) st H F w ρ h ⟨hh, Keeps.refl H F w, fun _ _ => rfl⟩⟩
  | .rangeFunc .., _, _, _, _, _, _, _, _, _, _, h, _, _ => by cases h
  | .refuse _, _, _, _, _, _, _, _, _, _, _, h, _, _ => by cases h
end
end Go.Proofs.YtjeeligfdpociaaGreat

namespace Go.Proofs.YtjeeligfdpociaaGreat
open Go Go.RowKit

def resCell {P : Program} (T : Tabs P) (slots : List (Nat × Desc)) (objs : List (Nat × (Nat × Th))) (t : Nat) (T0 : TypeId) : Option Desc :=
  match find T.und T0 with
  | none => none
  | some kk => match find slots t with
    | some (.ptr o p off) => match find objs o with
      | some (_, .box _ tr) => match tr.get p with
        | some (s, off') => bif Nat.beq off' off && sizeOK T T0 kk s.size then some (.val (aggK kk) s) else none
        | none => none
      | _ => none
    | _ => none

def resD {P : Program} (T : Tabs P) (slots : List (Nat × Desc)) (objs : List (Nat × (Nat × Th))) : List ResultVar → Option (List Desc)
  | [] => some []
  | .tmp t :: l => match find slots t with
    | some d => match resD T slots objs l with
      | some ds => some (d :: ds)
      | none => none
    | none => none
  | .cell t T0 :: l => match resCell T slots objs t T0 with
    | some d => match resD T slots objs l with
      | some ds => some (d :: ds)
      | none => none
    | none => none

noncomputable def retK {P : Program} (T : Tabs P) (rs : List ResultVar) (nb : Nat) (out : JS) (st : State) : Option (tupDen out.rows) :=
  match resD T st.slots st.objs rs with
  | some ds => match packV nb [] out (argSlots 0 ds) (mendS st).objs with
    | some (x, _) => some x
    | none => none
  | none => none

def init (inn : JS) (x : tupDen inn.rows) : State :=
  { slots := (resS inn.slots (ofTup _ x)).1, objs := resO 0 inn.objs (resS inn.slots (ofTup _ x)).2, nxt := inn.nxt }

noncomputable def resK {P : Program} (T : Tabs P) (rs : List ResultVar) (nb : Nat) (out : JS) : Ex → State → Option (tupDen out.rows)
  | .exit _, _ => none
  | .goto _, _ => none
  | _, st => retK T rs nb out st

noncomputable def runF {P : Program} (E : Env P) (nt N : Nat) (c : Code) (rs : List ResultVar) (a : Ann) (inn out : JS) (x : tupDen inn.rows) : Option (tupDen out.rows) :=
  exec E nt N c a (init inn x) (resK E.T rs inn.nxt out)

section
variable {P : Program} {ρ : Nat → Value} {w : World} {H : Hist} {F : Nat → Prop} {U : Nat → Prop} {n : Nat}

theorem loadVar_run (T : Tabs P) {t : TypeId} {kk : TyK} (hu : find T.und t = some kk) {b off : Nat} {s : Tree} {cs : List Value} (hh : Holds H F w s cs) (hc : ∀ j u, cs[j]? = some u → w.cell? ⟨b, off + j, none⟩ = some u)
    (hz : if aggK kk = true then ∃ r, find T.row t = some r ∧ r.size = s.size else s.size = 1) : ∃ v, (loadVar t ⟨b, off, none⟩).run P w = .ok v w ∧ ValOK H F w (aggK kk) s v := by
  obtain ⟨dd, hd1, hd2⟩ := (T.und_ok _ _ hu).agg
  have hl := hh.length
  cases ha : aggK kk with
  | true =>
    rw [if_pos ha] at hz
    obtain ⟨r, hr, hrs⟩ := hz
    obtain ⟨ti, z, h1, _, _, h4, _⟩ := T.row_ok _ _ hr
    have hlc : (loadCells ⟨b, off, none⟩ cs.length).run P w = .ok cs.toArray w :=
      run_loadCells_list (P := P) w ⟨b, off, none⟩ cs (fun j v hv => by rw [addr_add_none]; exact hc j v hv)
    refine ⟨.agg cs.toArray, ?_, cs, hh, rfl, by simp⟩
    have hsz : ti.size = cs.length := by omega
    simp [loadVar, Sem.run_bind, run_isAgg hd1, hd2.trans ha, sizeOf, typeInfo, h1, hsz, hlc]
  | false =>
    rw [if_neg (by simp [ha])] at hz
    obtain ⟨v, rfl⟩ : ∃ v, cs = [v] := by
      match cs, hl.trans hz with
      | [v], _ => exact ⟨v, rfl⟩
    refine ⟨v, ?_, [v], hh, rfl, fun _ => rfl⟩
    have := hc 0 v rfl
    simp only [Nat.add_zero] at this
    simp [loadVar, Sem.run_bind, run_isAgg hd1, hd2.trans ha, this, go_sem]

theorem resCell_ok (T : Tabs P) {slots : List (Nat × Desc)} {objs : List (Nat × (Nat × Th))} {t : Nat} {T0 : TypeId} {D : Desc} (h : resCell T slots objs t T0 = some D) (hsl : ∀ t d, find slots t = some d → DescOK H F w d (ρ t)) (hs : ObSat U H F w (find objs) n) :
    ∃ a v, ρ t = .pointer (some a) ∧ (loadVar T0 a).run P w = .ok v w ∧ DescOK H F w D v := by
  unfold resCell at h
  split at h
  · cases h
  rename_i kk hu
  split at h
  case h_2 => cases h
  rename_i o p off hD
  split at h
  case h_2 => cases h
  rename_i s0 T1 tr hob
  split at h
  case h_2 => cases h
  rename_i s off' hg
  obtain ⟨h1, rfl⟩ := bif_some h
  obtain ⟨h1, h3⟩ := and2 h1
  obtain rfl := beq_true h1
  obtain ⟨b, hb, e⟩ := hsl _ _ hD
  obtain ⟨es, hh, hho⟩ := hs.box hob hb
  obtain ⟨g1, g2⟩ := hho.get hg
  obtain ⟨v, hv, hok⟩ := loadVar_run (b := b) (off := off') T hu g1 (fun j u hj => by
    rw [cells_at hh]
    rw [List.getElem?_take] at hj
    split at hj
    · rwa [List.getElem?_drop] at hj
    · cases hj) (sizeOK_ok T h3)
  exact ⟨_, v, e, hv, hok⟩

def resM (tmps : Array Value) : ResultVar → Sem Value
  | .tmp t => pure (tmps.getD t undef)
  | .cell a t => do loadVar t (← asAddr (tmps.getD a undef))

theorem resD_ok (T : Tabs P) {slots : List (Nat × Desc)} {objs : List (Nat × (Nat × Th))} (hsl : ∀ t d, find slots t = some d → DescOK H F w d (ρ t)) (hs : ObSat U H F w (find objs) n) {tmps : Array Value} (hf : ∀ t, tmps.getD t undef = ρ t) :
    {rs : List ResultVar} → {ds : List Desc} → resD T slots objs rs = some ds → ∃ vs : List Value, (rs.mapM (resM tmps)).run P w = .ok vs w ∧ DescsOK H F w ds vs
  | [], ds, h => by obtain rfl := Option.some.inj h; exact ⟨[], by simp, rfl⟩
  | .tmp t :: l, ds, h => by
    unfold resD at h
    split at h
    case h_2 => cases h
    rename_i d hd
    split at h
    case h_2 => cases h
    rename_i ds' hds
    obtain rfl := Option.some.inj h
    obtain ⟨vs, h1, h2⟩ := resD_ok T hsl hs hf hds
    refine ⟨ρ t :: vs, ?_, ρ t, vs, rfl, hsl t d hd, h2⟩
    have hm : (resM tmps (.tmp t)).run P w = .ok (ρ t) w := by rw [← hf t]; rfl
    rw [List.mapM_cons]
    simp only [Sem.run_bind, hm, Sem.run_pure, Result.andThen_ok, h1]
  | .cell t T0 :: l, ds, h => by
    unfold resD at h
    split at h
    case h_2 => cases h
    rename_i d hd
    split at h
    case h_2 => cases h
    rename_i ds' hds
    obtain rfl := Option.some.inj h
    obtain ⟨vs, h1, h2⟩ := resD_ok T hsl hs hf hds
    obtain ⟨a, v, e1, e2, e3⟩ := resCell_ok T hd hsl hs
    refine ⟨v :: vs, ?_, v, vs, rfl, e3, h2⟩
    have ha : (asAddr (.pointer (some a))).run P w = .ok a w := rfl
    have hm : (resM tmps (.cell t T0)).run P w = .ok v w := by
      show (asAddr (tmps.getD t undef) >>= fun b => loadVar T0 b).run P w = _
      rw [hf t, e1, Sem.run_bind, ha, Result.andThen_ok, e2]
    rw [List.mapM_cons]
    simp only [Sem.run_bind, hm, Sem.run_pure, Result.andThen_ok, h1]

theorem results_ok (T : Tabs P) {fn : Func} {rs : List ResultVar} (hrs : fn.results.toList = rs) {slots : List (Nat × Desc)} {objs : List (Nat × (Nat × Th))} (hsl : ∀ t d, find slots t = some d → DescOK H F w d (ρ t)) (hs : ObSat U H F w (find objs) n) {tmps : Array Value} (hf : ∀ t, tmps.getD t undef = ρ t)
    {ds : List Desc} (h : resD T slots objs rs = some ds) : ∃ vs : List Value, (results fn tmps).run P w = .ok (retV vs) w ∧ DescsOK H F w ds vs := by
  obtain ⟨vs, h1, h2⟩ := resD_ok T hsl hs hf h
  refine ⟨vs, ?_, h2⟩
  have e : fn.results = rs.toArray := toArray_of hrs
  have er : results fn tmps = (fn.results.mapM (resM tmps) >>= fun vs => pure (if h : vs.size = 1 then vs[0] else Value.tuple vs)) := rfl
  rw [er, e, List.mapM_toArray]
  have : ∀ vs : List Value, (if h : vs.toArray.size = 1 then vs.toArray[0] else Value.tuple vs.toArray) = retV vs := by
    intro vs
    match vs with
    | [] => rfl
    | [v] => rfl
    | a :: b :: l => simp [retV]
  simp only [Sem.run_bind, Sem.run_map, h1, Result.andThen_ok, Sem.run_pure, this]

theorem idxS_lt : {l : List (Nat × SS)} → {vs : List Dat} → {k t : Nat} → {d : Desc} → idxS k l = true → find (resS l vs).1 t = some d → t < k + l.length
  | [], _, _, _, _, _, h => by cases h
  | (t0, s) :: l, vs, k, t, d, hi, h => by
    obtain ⟨h1, h2⟩ := and2 hi
    have h' : find ((t0, (resS1 s vs).1) :: (resS l (resS1 s vs).2).1) t = some d := h
    rw [find_cons] at h'
    have := beq_true h1
    rw [List.length_cons]
    split at h'
    · omega
    · have := idxS_lt h2 h'
      omega

/-- A walk of code: a function on symbolic states. -/
def Walks (P : Program) (nt : Nat) (c : Code) (run : {R : Type} → State → (Ex → State → Option R) → Option R) : Prop :=
  ∀ {R : Type} {q : R} {st : State} {k : Ex → State → Option R} {H : Hist} {F : Nat → Prop} {w : World} {ρ : Nat → Value} {G : Nat → Prop} {w0 : World} {F0 : Nat → Prop} {Q : Exit → (Nat → Value) → World → Prop},
    run st k = some q → Here G w0 F0 H F w ρ st → (∀ e st' H' F' w' ρ', k e st' = some q → Then G w0 F0 (writes c) H F w ρ H' F' w' ρ' st' → Q e.exit' ρ' w') → wpC P nt c Q ρ w

/-- The contract of a function whose code is walked. -/
theorem fn_okW {E : Env P} {f : FuncId} {fn : Func} {c : Code} {rs : List ResultVar} {sg : Sig} {run : {R : Type} → State → (Ex → State → Option R) → Option R} (hW : Walks P fn.ntmps c run) (hf : P.funcs[f]? = some fn) (hn : (fn.name == "runtime.NumGoroutine") = false) (hb : fn.body = some c) (hrs : fn.results.toList = rs)
    (hidx : idxS 0 sg.inn.slots = true) (hlen : Nat.ble sg.inn.slots.length fn.ntmps = true) (hres : Nat.beq rs.length sg.out.slots.length = true)
    (hfn : ∀ x, sg.fn x = run (init sg.inn x) (resK E.T rs sg.inn.nxt sg.out)) : FnOK P f sg := by
  refine ⟨⟨fn, hf, hn, by rw [hb]; rfl⟩, fun x y hxy args w H F G hargs hsl hob hall hG => ?_⟩
  have hlen : sg.inn.slots.length ≤ fn.ntmps := by simpa using hlen
  have hres := beq_true hres
  refine (calls_of_wpC (R := fun v w' => ∃ vs, v = retV vs ∧ vs.length = sg.out.slots.length ∧ ∃ H' F', Ext G w w' ∧ H.le H' ∧ (∀ b, F b → F' b) ∧ (∀ b, F' b → F b ∨ w.heap.size ≤ b ∨ G b) ∧
      (∀ t d, find (resS sg.out.slots (ofTup _ y)).1 t = some d → DescOK H' F' w' d (vs.getD t undef)) ∧
      ObSat (fun k => w.heap.size ≤ k ∨ G k) H' F' w' (find (resO sg.inn.nxt sg.out.objs (resS sg.out.slots (ofTup _ y)).2)) sg.out.nxt ∧ AllNew H' sg.out.nxt) hf hb (by omega) fun ρ hρ => ?_).mono fun e w' ⟨v, he, vs, hv, h1, h2⟩ => ⟨vs, by rw [he, hv], h1, h2⟩
  have hρ' : ∀ t, t < args.length → ρ t = args.getD t undef := fun t ht => by
    rw [hρ t _ (List.getElem?_eq_getElem ht)]
    simp [List.getD, ht]
  have keys : ∀ t d, find (resS sg.inn.slots (ofTup sg.inn.rows x)).1 t = some d → DescOK H F w d (ρ t) := fun t d hd => by
    rw [hρ' t (by have := idxS_lt hidx hd; omega)]
    exact hsl t d hd
  have hh : Here G w F H F w ρ (init sg.inn x) := ⟨⟨keys, hob, hall⟩, ⟨⟨rfl, rfl, rfl, Nat.le_refl _, fun _ _ _ => rfl⟩, fun _ h => h, fun _ h => .inl h⟩⟩
  refine hW ((hfn x).symm.trans hxy) hh fun e st' H' F' w' ρ' h1 h2 => ?_
  have main : retK E.T rs sg.inn.nxt sg.out st' = some y → ∀ act, Fr fn.ntmps act ρ' → ∃ v, (results fn act.tmps).run P w' = .ok v w' ∧ ∃ vs, v = retV vs ∧ vs.length = sg.out.slots.length ∧ ∃ H' F', Ext G w w' ∧ H.le H' ∧ (∀ b, F b → F' b) ∧ (∀ b, F' b → F b ∨ w.heap.size ≤ b ∨ G b) ∧
      (∀ t d, find (resS sg.out.slots (ofTup _ y)).1 t = some d → DescOK H' F' w' d (vs.getD t undef)) ∧
      ObSat (fun k => w.heap.size ≤ k ∨ G k) H' F' w' (find (resO sg.inn.nxt sg.out.objs (resS sg.out.slots (ofTup _ y)).2)) sg.out.nxt ∧ AllNew H' sg.out.nxt := by
    intro hr act hfr
    unfold retK at hr
    split at hr
    case h_2 => cases hr
    rename_i ds hds
    split at hr
    case h_2 => cases hr
    rename_i _ z rest hp
    obtain ⟨bs, objs1⟩ := rest
    obtain rfl := Option.some.inj hr
    obtain ⟨vs, g1, g2⟩ := results_ok E.T hrs h2.here.sat.slot h2.here.sat.ob hfr.get hds
    have hdl := descsOK_length g2
    refine ⟨_, g1, vs, rfl, ?_, ?_⟩
    · have : ∀ {rs : List ResultVar} {ds : List Desc}, resD E.T st'.slots st'.objs rs = some ds → ds.length = rs.length := by
        intro rs
        induction rs with
        | nil => intro ds h; obtain rfl := Option.some.inj h; rfl
        | cons r l ih =>
          intro ds h
          cases r <;> unfold resD at h <;> split at h <;> try cases h
          all_goals
            split at h
            case h_2 => cases h
            rename_i ds' hds'
            obtain rfl := Option.some.inj h
            simp [ih hds']
      have := this hds
      omega
    · have hs0 : ObSat (UU G w) H F w (find (del [] [])) sg.inn.nxt := ⟨fun _ _ _ h => (by cases h), fun _ _ _ _ _ _ _ _ _ h => (by cases h), hob.fresh, hob.lt, hob.new, hob.gl⟩
      obtain ⟨H3, F3, h3, k3⟩ := h2.here.mendS
      obtain ⟨F2, H2, a1, a2, a3, _, a5, _, a6, a7, a8⟩ := packV_ok (U' := UU G w) (ns := []) (objs0 := []) (ρ := fun t => vs.getD t undef) hp hs0 hall (h2.keeps.trans k3) h3.sat.ob (fun t d hd => DescOK.keep k3.hist k3.step (by simpa using (argSlots_ok g2 t d hd).2))
      have hob2 := a8 h3.sat.ob.new (fun o s t v k _ m2 m3 m4 => by
        obtain ⟨v', hv', hin⟩ := a1.obj _ _ _ m2
        rw [m3] at hv'
        obtain rfl := Option.some.inj hv'
        exact hin.use k m4) (fun _ _ _ _ _ h => by cases h)
      rw [show del [] ([] : List (Nat × (Nat × Th))) = [] from rfl, List.append_nil] at hob2
      refine ⟨H2, F2, h3.glob.ext, a5, fun b hb => a2 b (h3.glob.le b hb), fun b hb => ?_, a7, hob2, a6⟩
      rcases a3 b hb with m1 | m1
      · exact h3.glob.new b m1
      · exact .inr (h3.sat.ob.eaten_use b m1)
  cases e with
  | normal => exact main h1
  | ret => exact main h1
  | exit id => cases h1
  | goto l => cases h1

theorem fn_ok {E : Env P} {f : FuncId} {fn : Func} {c : Code} {rs : List ResultVar} {N : Nat} {a : Ann} {sg : Sig} (hf : P.funcs[f]? = some fn) (hn : (fn.name == "runtime.NumGoroutine") = false) (hb : fn.body = some c) (hrs : fn.results.toList = rs)
    (hidx : idxS 0 sg.inn.slots = true) (hlen : Nat.ble sg.inn.slots.length fn.ntmps = true) (hres : Nat.beq rs.length sg.out.slots.length = true)
    (hfn : ∀ x, sg.fn x = runF E fn.ntmps N c rs a sg.inn sg.out x) : FnOK P f sg :=
  fn_okW (E := E) (run := fun st k => exec E fn.ntmps N c a st k) (fun h hh hk => exec_ok c h hh hk) hf hn hb hrs hidx hlen hres hfn

theorem fn_none {f : FuncId} {fn : Func} {sg : Sig} (hf : P.funcs[f]? = some fn) (hn : (fn.name == "runtime.NumGoroutine") = false) (hb : fn.body.isNone = false) (hfn : ∀ x, sg.fn x = none) : FnOK P f sg :=
  ⟨⟨fn, hf, hn, hb⟩, fun x y h => by rw [hfn x] at h; cases h⟩
theorem tabnil : ∀ p ∈ ([] : List (Nat × Sig)), FnOK P p.1 p.2 := fun _ h => by cases h
theorem tabcons {f : Nat} {sg : Sig} {l : List (Nat × Sig)} (h : FnOK P f sg) (hl : ∀ p ∈ l, FnOK P p.1 p.2) : ∀ p ∈ (f, sg) :: l, FnOK P p.1 p.2 := fun p hp => by
  rcases List.mem_cons.1 hp with rfl | hp
  · exact h
  · exact hl p hp
abbrev rInt : Row := .int .i64
end
end Go.Proofs.YtjeeligfdpociaaGreat
