/- Where ways meet: what is carried there, as a tuple of plain values; what stands behind. -/
/- Objects that are carried; the whole of a meeting. -/
import Derived.Test.YtjeeligfdpociaaGreatGrp
namespace Go.Proofs.YtjeeligfdpociaaGreat
open Go Go.RowKit

/-! ## Freezing -/
def frzAll (objs : List (Nat × (Nat × Th))) : List Nat → Option (List (Nat × (Nat × Th)))
  | [] => some objs
  | o :: os => match find objs o with
    | some (s, .own T r l) => frzAll ((o, (s, .frz T r l)) :: del [o] objs) os
    | some (s, .map T K agg V l) => frzAll ((o, (s, .fmap T K agg V l)) :: del [o] objs) os
    | some (s, .deep T d l none) => frzAll ((o, (s, .fdeep T d l)) :: del [o] objs) os
    | some (s, .dmap T K E r l none) => frzAll ((o, (s, .fdmap T K E r l)) :: del [o] objs) os
    | some (_, .frz ..) => frzAll objs os
    | some (_, .fmap ..) => frzAll objs os
    | some (_, .fdeep ..) => frzAll objs os
    | some (_, .fdmap ..) => frzAll objs os
    | _ => none
def frozenB : Th → Bool
  | .frz .. => true
  | .fmap .. => true
  | .fdeep .. => true
  | .fdmap .. => true
  | _ => false
/-- Read alone from now on. -/
structure Frz (t t' : Th) : Prop where
  froz : frozenB t' = true
  base : t'.base = t.base
  fp : ∀ S v k, ¬ fp S v t' k
  ok : ∀ {H : Hist} {F : Nat → Prop} {w : World} {S : Nat → Prop} {v : Value}, (∀ k, Go.Proofs.YtjeeligfdpociaaGreat.fp S v t k → ¬ F k) → ThOK H F w S v t → ThOK H (fun b => F b ∨ Go.Proofs.YtjeeligfdpociaaGreat.fp S v t b) w S v t'

/-- What was known is kept. -/
structure Keeps (H : Hist) (F : Nat → Prop) (w : World) (H' : Hist) (F' : Nat → Prop) (w' : World) : Prop where
  hist : H.le H'
  step : Step F w F' w'
theorem Keeps.refl (H : Hist) (F : Nat → Prop) (w : World) : Keeps H F w H F w := ⟨Hist.le.refl H, Step.refl F w⟩
theorem Keeps.trans {H H' H'' : Hist} {F F' F'' : Nat → Prop} {w w' w'' : World} (h : Keeps H F w H' F' w') (k : Keeps H' F' w' H'' F'' w'') : Keeps H F w H'' F'' w'' := ⟨h.hist.trans k.hist, h.step.trans k.step⟩

/-- Since the call began: what was there is as it was, but for G; F has grown by new blocks and G alone. -/
structure Glob (G : Nat → Prop) (w0 : World) (F0 : Nat → Prop) (w : World) (F : Nat → Prop) : Prop where
  ext : Ext G w0 w
  le : ∀ b, F0 b → F b
  new : ∀ b, F b → F0 b ∨ w0.heap.size ≤ b ∨ G b

section
variable {U : Nat → Prop} {H : Hist} {F : Nat → Prop} {w : World} {n : Nat}

theorem frz_own (T : TypeId) (r : Row) (l : List r.den) : Frz (.own T r l) (.frz T r l) where
  froz := rfl
  base := rfl
  fp _ _ _ h := h
  ok hn h := Own.freeze (base := 0) (T := T) (l := l) ⟨hn, h⟩
theorem frz_map (T : TypeId) (K : Row) (agg : Bool) (V : Row) (l : List (K.den × V.den)) : Frz (.map T K agg V l) (.fmap T K agg V l) where
  froz := rfl
  base := rfl
  fp _ _ _ h := h
  ok {H F w S v} _ h := by
    obtain ⟨b, es, clock, h1, h2, h3, h4⟩ := h
    obtain ⟨g1, g2⟩ := ents_to h4
    refine ⟨v, rfl, .inr ⟨b, es, clock, h1, .inr h1, h2, h3, by simpa using g1, fun i hi => ?_⟩⟩
    obtain ⟨e, cs, q1, q2, q3, q4, q5⟩ := g2 i hi
    exact ⟨e, cs, by simpa using q1, q2, q3.step (Step.freeze F w _), q4, q5⟩

theorem OwnM.hdr {F : Nat → Prop} {w : World} {T : TypeId} {r : Row} {v : Value} {l : List r.den} (h : OwnM F w T r v l) : Rep F w .hdr [v] v := by
  obtain ⟨xs, ⟨_, h⟩, _⟩ := h
  rcases h with ⟨rfl, _⟩ | ⟨gg, o0, cap, cur, rfl, _⟩ <;> exact ⟨rfl, _, _, _, rfl⟩
theorem frz_deep (T : TypeId) (d : DR) (l : List d.row.den) : Frz (.deep T d l none) (.fdeep T d l) where
  froz := rfl
  base := rfl
  fp _ _ _ h := h
  ok {H F w S v} hn h := by
    have h' : DEl F w (.sl T d) v l S := h
    obtain ⟨lh, Ss, h1, _⟩ := h
    exact DEl.freeze h' hn h1.hdr

theorem frz_dmap (T : TypeId) (K : Row) (E : TypeId) (r : Row) (l : List (K.den × List r.den)) : Frz (.dmap T K E r l none) (.fdmap T K E r l) where
  froz := rfl
  base := rfl
  fp _ _ _ h := h
  ok {H F w S v} hn h := by
    obtain ⟨b, es, clock, B, h1, h2, h3, h4, h5, _⟩ := h
    obtain ⟨g1, g2⟩ := dents_to h4
    refine ⟨v, rfl, .inr ⟨b, es, clock, h1, .inr (h5.left b rfl), h2, h3, by simpa using g1, fun i hi => ?_⟩⟩
    obtain ⟨e, A, q1, q2, q3, q4⟩ := g2 i hi
    have hAS : ∀ k, A k → S k := fun k hk => h5.right k (q4 k hk)
    have hf := Own.freeze (base := 0) (T := E) (l := l[i].2) ⟨fun k hk => hn k (hAS k ((q3.2 k).2 hk)), q3.1⟩
    exact ⟨e, [e.val], by simpa using q1, q2, hf.step (r := .slice r) fun k hk => ⟨hk.imp id fun h => hAS k ((q3.2 k).2 h), rfl⟩, rfl, fun _ => rfl⟩

theorem frz_one {objs : List (Nat × (Nat × Th))} {o s : Nat} {t0 t1 : Th} (hf : Frz t0 t1) (hs : ObSat U H F w (find objs) n) (ho : find objs o = some (s, t0)) :
    ∃ F', ObSat U H F' w (find ((o, (s, t1)) :: del [o] objs)) n ∧ (∀ b, F b → F' b) ∧ (∀ b, F' b → F b ∨ ∃ v, H.val o = some v ∧ fp (H.sub s) v t0 b) := by
  obtain ⟨v, hv, hin⟩ := hs.obj _ _ _ ho
  refine ⟨fun b => F b ∨ fp (H.sub s) v t0 b, ?_, fun _ h => .inl h, fun b hb => hb.imp id fun hm => ⟨v, hv, hm⟩⟩
  have part : ∀ o' s' t', find ((o, (s, t1)) :: del [o] objs) o' = some (s', t') → (o' = o ∧ s' = s ∧ t' = t1) ∨ (o' ≠ o ∧ find objs o' = some (s', t')) := by
    intro o' s' t' h
    rw [find_cons] at h
    split at h
    · rename_i e
      simp only [Option.some.injEq, Prod.mk.injEq] at h
      exact .inl ⟨e.symm, h.1.symm, h.2.symm⟩
    · rename_i e
      exact .inr ⟨fun e' => e e'.symm, (find_del.1 h).2⟩
  have fz : Step F w (fun b => F b ∨ fp (H.sub s) v t0 b) w := Step.freeze F w _
  refine ⟨fun o' s' t' h => ?_, fun o1 o2 s1 s2 t1' t2 v1 v2 hne h1 h2 e1 e2 k hk hk' => ?_, hs.fresh, fun b hb => hb.elim (hs.lt b) (hin.lt b), hs.new, hs.gl.step fz⟩
  · rcases part o' s' t' h with ⟨rfl, rfl, rfl⟩ | ⟨hne, h'⟩
    · exact ⟨v, hv, hin.one, by rw [hf.base]; exact hin.con, hf.ok hin.no hin.ok, fun k hk => (hf.fp _ _ _ hk).elim, fun k hk => (hf.fp _ _ _ hk).elim, fun k hk => (hf.fp _ _ _ hk).elim⟩
    · obtain ⟨v', hv', hin'⟩ := hs.obj _ _ _ h'
      refine ⟨v', hv', hin'.one, hin'.con, hin'.ok.heap (Hist.le.refl H) fz fun _ _ => rfl, fun k hk hF => ?_, hin'.lt, hin'.use⟩
      rcases hF with hF | hF
      · exact hin'.no k hk hF
      · exact hs.apart _ _ _ _ _ _ _ _ hne h' ho hv' hv k hk hF
  · rcases part o1 s1 t1' h1 with ⟨rfl, rfl, rfl⟩ | ⟨hne1, h1'⟩
    · exact hf.fp _ _ _ hk
    · rcases part o2 s2 t2 h2 with ⟨rfl, rfl, rfl⟩ | ⟨hne2, h2'⟩
      · exact hf.fp _ _ _ hk'
      · exact hs.apart _ _ _ _ _ _ _ _ hne h1' h2' e1 e2 k hk hk'

theorem frzAll_ok : {os : List Nat} → {F : Nat → Prop} → {objs objs' : List (Nat × (Nat × Th))} → frzAll objs os = some objs' → ObSat U H F w (find objs) n →
    ∃ F', ObSat U H F' w (find objs') n ∧ (∀ b, F b → F' b) ∧ (∀ b, F' b → F b ∨ eaten H (find objs) os b)
  | [], F, objs, objs', h, hs => by obtain rfl := Option.some.inj h; exact ⟨F, hs, fun _ h => h, fun _ h => .inl h⟩
  | o :: os, F, objs, objs', h, hs => by
    have main : ∀ s t t', Frz t t' → find objs o = some (s, t) → frzAll ((o, (s, t')) :: del [o] objs) os = some objs' →
        ∃ F', ObSat U H F' w (find objs') n ∧ (∀ b, F b → F' b) ∧ (∀ b, F' b → F b ∨ eaten H (find objs) (o :: os) b) := by
      intro s t t' hf ho h
      obtain ⟨F1, a1, a2, a3⟩ := frz_one hf hs ho
      obtain ⟨F2, b1, b2, b3⟩ := frzAll_ok h a1
      refine ⟨F2, b1, fun b hb => b2 b (a2 b hb), fun b hb => ?_⟩
      rcases b3 b hb with h1 | ⟨o', ho', s', t', v, h1, h2, h3⟩
      · rcases a3 b h1 with h2 | ⟨v, hv, hm⟩
        · exact .inl h2
        · exact .inr ⟨o, by simp, s, _, v, ho, hv, hm⟩
      · rw [find_cons] at h1
        split at h1
        · simp only [Option.some.injEq, Prod.mk.injEq] at h1
          rw [← h1.2] at h3
          exact (hf.fp _ _ _ h3).elim
        · exact .inr ⟨o', by simp [ho'], s', t', v, (find_del.1 h1).2, h2, h3⟩
    have same : frzAll objs os = some objs' → ∃ F', ObSat U H F' w (find objs') n ∧ (∀ b, F b → F' b) ∧ (∀ b, F' b → F b ∨ eaten H (find objs) (o :: os) b) := by
      intro h
      obtain ⟨F2, b1, b2, b3⟩ := frzAll_ok h hs
      exact ⟨F2, b1, b2, fun b hb => (b3 b hb).imp id fun ⟨o', ho', rest⟩ => ⟨o', by simp [ho'], rest⟩⟩
    unfold frzAll at h
    split at h
    · rename_i ho
      exact main _ _ _ (frz_own ..) ho h
    · rename_i ho
      exact main _ _ _ (frz_map ..) ho h
    · rename_i ho
      exact main _ _ _ (frz_deep ..) ho h
    · rename_i ho
      exact main _ _ _ (frz_dmap ..) ho h
    · exact same h
    · exact same h
    · exact same h
    · exact same h
    · cases h
end

theorem fp_frozen {S : Nat → Prop} {v : Value} {t : Th} {k : Nat} (h : frozenB t = true) (hk : fp S v t k) : False := by
  cases t <;> first | (exact hk) | (cases h)
theorem frzAll_find : {os : List Nat} → {objs objs' : List (Nat × (Nat × Th))} → frzAll objs os = some objs' → ∀ o s t, find objs' o = some (s, t) →
    find objs o = some (s, t) ∨ frozenB t = true
  | [], objs, objs', h, o, s, t, ho => by obtain rfl := Option.some.inj h; exact .inl ho
  | o0 :: os, objs, objs', h, o, s, t, ho => by
    have main : ∀ s0 t1, frozenB t1 = true → frzAll ((o0, (s0, t1)) :: del [o0] objs) os = some objs' → find objs o = some (s, t) ∨ frozenB t = true := by
      intro s0 t1 hf h
      rcases frzAll_find h o s t ho with h1 | g
      · rw [find_cons] at h1
        split at h1
        · simp only [Option.some.injEq, Prod.mk.injEq] at h1
          obtain ⟨rfl, rfl⟩ := h1
          exact .inr hf
        · exact .inl (find_del.1 h1).2
      · exact .inr g
    unfold frzAll at h
    split at h
    · exact main _ _ rfl h
    · exact main _ _ rfl h
    · exact main _ _ rfl h
    · exact main _ _ rfl h
    · exact frzAll_find h o s t ho
    · exact frzAll_find h o s t ho
    · exact frzAll_find h o s t ho
    · exact frzAll_find h o s t ho
    · cases h

/-! ## Shapes -/
inductive Sh where
  | leaf (r : Row)
  | own (j : Nat)
  | nil
  | pair (a b : Sh)

inductive SS where
  | val (agg : Bool) (t : Sh)
  | ptr (j : Nat) (p : List Bool) (off : Nat)
  | at (r : Row)
  | undef
  | fn (f : FuncId) (js : List (Nat × List Bool × Nat))
  | ifc (T : TypeId) (s : SS)

inductive OS where
  | box (T : TypeId) (t : Sh)
  | own (T : TypeId) (r : Row)
  | map (T : TypeId) (K : Row) (agg : Bool) (V : Row)
  | deep (T : TypeId) (d : DR)
  | dmap (T : TypeId) (K : Row) (E : TypeId) (r : Row)

structure JS where
  slots : List (Nat × SS)
  objs : List (Nat × OS) := []
  drop : List Nat := []
  nxt : Nat

def Sh.rows : Sh → List Row
  | .leaf r => [r]
  | .own _ => []
  | .nil => []
  | .pair a b => a.rows ++ b.rows
def SS.rows : SS → List Row
  | .val _ t => t.rows
  | .ptr .. => []
  | .at r => [r]
  | .undef => []
  | .fn .. => []
  | .ifc _ s => s.rows
def OS.rows : OS → List Row
  | .box _ t => t.rows
  | .own _ r => [.slice r]
  | .map _ K _ V => [.slice (.pair K V)]
  | .deep _ d => [.slice d.row]
  | .dmap _ K _ r => [.slice (.pair K (.slice r))]
def slotRows : List (Nat × SS) → List Row
  | [] => []
  | p :: l => p.2.rows ++ slotRows l
def objRows : List (Nat × OS) → List Row
  | [] => []
  | p :: l => p.2.rows ++ objRows l
def JS.rows (J : JS) : List Row := slotRows J.slots ++ objRows J.objs

abbrev Dat := (r : Row) × r.den

@[reducible] def tupDen : List Row → Type
  | [] => Unit
  | [r] => r.den
  | r :: s :: rs => r.den × tupDen (s :: rs)

def ofTup : (rs : List Row) → tupDen rs → List Dat
  | [], _ => []
  | [r], x => [⟨r, x⟩]
  | r :: s :: rs, x => ⟨r, x.1⟩ :: ofTup (s :: rs) x.2

def toTup : (rs : List Row) → List Dat → Option (tupDen rs)
  | [], [] => some ()
  | [r], [⟨s, x⟩] => if h : s.beq r = true then some (castR (Row.eq_of_beq h) x) else none
  | r :: r' :: rs, ⟨s, x⟩ :: vs => if h : s.beq r = true then (match toTup (r' :: rs) vs with
    | some y => some (castR (Row.eq_of_beq h) x, y)
    | none => none) else none
  | _, _ => none

theorem castR_sig {r s : Row} (h : s = r) (x : s.den) : (⟨r, castR h x⟩ : Dat) = ⟨s, x⟩ := by subst h; rfl

theorem ofTup_toTup : {rs : List Row} → {vs : List Dat} → {x : tupDen rs} → toTup rs vs = some x → ofTup rs x = vs
  | [], [], x, _ => rfl
  | [], _ :: _, _, h => by cases h
  | [r], [], _, h => by cases h
  | [r], [⟨s, x⟩], y, h => by
    unfold toTup at h
    split at h
    · rename_i hb
      obtain rfl := Option.some.inj h
      show [(⟨r, _⟩ : Dat)] = _
      rw [castR_sig]
    · cases h
  | [r], _ :: _ :: _, _, h => by cases h
  | r :: r' :: rs, [], _, h => by cases h
  | r :: r' :: rs, ⟨s, x⟩ :: vs, y, h => by
    unfold toTup at h
    split at h
    · rename_i hb
      split at h
      · rename_i z hz
        obtain rfl := Option.some.inj h
        have := ofTup_toTup hz
        show (⟨r, _⟩ : Dat) :: ofTup (r' :: rs) z = _
        rw [castR_sig, this]
      · cases h
    · cases h

/-! ## What stands behind -/
def resT : Sh → List Dat → Tree × List Dat
  | .leaf r, ⟨s, x⟩ :: vs => (bif s.beq r then .leaf s x else .nil, vs)
  | .leaf _, [] => (.nil, [])
  | .own j, vs => (.own j, vs)
  | .nil, vs => (.nil, vs)
  | .pair a b, vs => (.pair (resT a vs).1 (resT b (resT a vs).2).1, (resT b (resT a vs).2).2)

def resS1 : SS → List Dat → Desc × List Dat
  | .val agg t, vs => (.val agg (resT t vs).1, (resT t vs).2)
  | .ptr j p off, vs => (.ptr j p off, vs)
  | .at r, ⟨s, x⟩ :: vs => (bif s.beq r then .at s x else .dead, vs)
  | .at _, [] => (.dead, [])
  | .undef, vs => (.undef, vs)
  | .fn f js, vs => (.fn f js, vs)
  | .ifc T s, vs => (.ifc T (resS1 s vs).1, (resS1 s vs).2)
def resS : List (Nat × SS) → List Dat → List (Nat × Desc) × List Dat
  | [], vs => ([], vs)
  | (t, s) :: l, vs => ((t, (resS1 s vs).1) :: (resS l (resS1 s vs).2).1, (resS l (resS1 s vs).2).2)
def resO1 : OS → List Dat → Th × List Dat
  | .box T t, vs => (.box T (resT t vs).1, (resT t vs).2)
  | .own T r, ⟨.slice s, l⟩ :: vs => (bif s.beq r then .own T s l else .own T r [], vs)
  | .own T r, vs => (.own T r [], vs)
  | .map T K agg V, ⟨.slice (.pair K' V'), l⟩ :: vs => (if h : K'.beq K = true ∧ V'.beq V = true then .map T K agg V (castR (r := .slice (.pair K' V')) (s := .slice (.pair K V)) (by rw [Row.eq_of_beq h.1, Row.eq_of_beq h.2]) l) else .map T K agg V [], vs)
  | .map T K agg V, vs => (.map T K agg V [], vs)
  | .deep T d, ⟨.slice s, l⟩ :: vs => (if h : s.beq d.row = true then .deep T d (castR (r := .slice s) (s := .slice d.row) (congrArg Row.slice (Row.eq_of_beq h)) l) none else .deep T d [] none, vs)
  | .deep T d, vs => (.deep T d [] none, vs)
  | .dmap T K E r, ⟨.slice (.pair K' (.slice s)), l⟩ :: vs => (if h : K'.beq K = true ∧ s.beq r = true then .dmap T K E r (castR (r := .slice (.pair K' (.slice s))) (s := .slice (.pair K (.slice r))) (by rw [Row.eq_of_beq h.1, Row.eq_of_beq h.2]) l) none else .dmap T K E r [] none, vs)
  | .dmap T K E r, vs => (.dmap T K E r [] none, vs)
def resO (m : Nat) : List (Nat × OS) → List Dat → List (Nat × (Nat × Th))
  | [], _ => []
  | (j, s) :: l, vs => (j, (m, (resO1 s vs).1)) :: resO (m + 1) l (resO1 s vs).2

/-! ## What is carried -/
abbrev Bs := List (Nat × Option Nat)
def optBeq : Option Nat → Option Nat → Bool
  | some a, some b => Nat.beq a b
  | none, none => true
  | _, _ => false
theorem optBeq_eq {a b : Option Nat} (h : optBeq a b = true) : a = b := by
  cases a <;> cases b <;> first | rfl | cases h | (rw [beq_true h])
def bindB (bs : Bs) (j : Nat) (v : Option Nat) : Option Bs :=
  match find bs j with
  | none => some ((j, v) :: bs)
  | some u => bif optBeq u v then some bs else none

def pkT (ob : Nat → Option (Nat × Th)) : Sh → Tree → Bs → Option (List Dat × Bs)
  | .leaf r, t, bs => match flat ob r t with
    | some x => some ([⟨r, x⟩], bs)
    | none => none
  | .own j, .own o, bs => match bindB bs j (some o) with
    | some bs' => some ([], bs')
    | none => none
  | .own j, .nil, bs => match bindB bs j none with
    | some bs' => some ([], bs')
    | none => none
  | .nil, .nil, bs => some ([], bs)
  | .pair a b, t, bs => match t.split with
    | some (x, y) => match pkT ob a x bs with
      | some (vs, bs1) => match pkT ob b y bs1 with
        | some (us, bs2) => some (vs ++ us, bs2)
        | none => none
      | none => none
    | none => none
  | _, _, _ => none

def bindCs : List (Nat × List Bool × Nat) → List (Nat × List Bool × Nat) → Bs → Option Bs
  | [], [], bs => some bs
  | (j, _, off) :: js, (o, _, off') :: cs, bs => bif Nat.beq off off' then (match bindB bs j (some o) with
    | some bs' => bindCs js cs bs'
    | none => none) else none
  | _, _, _ => none

def pkS0 (ob : Nat → Option (Nat × Th)) (s : SS) (d : Desc) (bs : Bs) : Option (List Dat × Bs) :=
  match s, d with
  | .val agg sh, .val agg' t => bif (bif agg then agg' else !agg') then pkT ob sh t bs else none
  | .ptr j _ off, .ptr o _ off' => bif Nat.beq off off' then (match bindB bs j (some o) with
    | some bs' => some ([], bs')
    | none => none) else none
  | .at r, .at s x => if h : s.beq r = true then some ([⟨r, castR (Row.eq_of_beq h) x⟩], bs) else none
  | .undef, .undef => some ([], bs)
  | .fn f js, .fn f' cs => bif Nat.beq f f' then (match bindCs js cs bs with
    | some bs' => some ([], bs')
    | none => none) else none
  | _, _ => none

def pkS1 (ob : Nat → Option (Nat × Th)) : SS → Desc → Bs → Option (List Dat × Bs)
  | .ifc T s, d, bs => match d with
    | .ifc T' d' => bif Nat.beq T T' then pkS1 ob s d' bs else none
    | _ => none
  | s, d, bs => pkS0 ob s d bs

def pkS (ob : Nat → Option (Nat × Th)) (slots : List (Nat × Desc)) : List (Nat × SS) → Bs → Option (List Dat × Bs)
  | [], bs => some ([], bs)
  | (t, s) :: l, bs => match find slots t with
    | some d => match pkS1 ob s d bs with
      | some (vs, bs1) => match pkS ob slots l bs1 with
        | some (us, bs2) => some (vs ++ us, bs2)
        | none => none
      | none => none
    | none => none

def pkO1 (ob : Nat → Option (Nat × Th)) (j : Nat) (s : OS) (bs : Bs) : Option (List Dat × Bs) :=
  match find bs j with
  | some (some o) => match ob o with
    | some (_, t) => match s, t with
      | .own T r, .own T' r' l => bif Nat.beq T T' then (if h : r'.beq r = true then some ([⟨.slice r, castR (r := .slice r') (s := .slice r) (congrArg Row.slice (Row.eq_of_beq h)) l⟩], bs) else none) else none
      | .box T sh, .box T' t => bif Nat.beq T T' then pkT ob sh t bs else none
      | .map T K agg V, .map T' K' agg' V' l => bif Nat.beq T T' && (bif agg then agg' else !agg') then (if h : K'.beq K = true ∧ V'.beq V = true then some ([⟨.slice (.pair K V), castR (r := .slice (.pair K' V')) (s := .slice (.pair K V)) (by rw [Row.eq_of_beq h.1, Row.eq_of_beq h.2]) l⟩], bs) else none) else none
      | .deep T d, .deep T' d' l none => bif Nat.beq T T' && d'.beq d then some ([⟨.slice d'.row, l⟩], bs) else none
      | .dmap T K E r, .dmap T' K' E' r' l none => bif Nat.beq T T' && Nat.beq E E' && K'.beq K && r'.beq r then some ([⟨.slice (.pair K' (.slice r')), l⟩], bs) else none
      | _, _ => none
    | none => none
  | some none => match s with
    | .own _ r => some ([⟨.slice r, ([] : List r.den)⟩], bs)
    | .deep _ d => some ([⟨.slice d.row, ([] : List d.row.den)⟩], bs)
    | _ => none
  | none => none

def pkO (ob : Nat → Option (Nat × Th)) : List (Nat × OS) → Bs → Option (List Dat × Bs)
  | [], bs => some ([], bs)
  | (j, s) :: l, bs => match pkO1 ob j s bs with
    | some (vs, bs1) => match pkO ob l bs1 with
      | some (us, bs2) => some (vs ++ us, bs2)
      | none => none
    | none => none

section
variable {U : Nat → Prop} {H H' : Hist} {F : Nat → Prop} {w : World} {n : Nat} {ob : Nat → Option (Nat × Th)}

def BsLe (bs bs' : Bs) : Prop := ∀ j v, find bs j = some v → find bs' j = some v
theorem bindB_ok {bs bs' : Bs} {j : Nat} {v : Option Nat} (h : bindB bs j v = some bs') : BsLe bs bs' ∧ find bs' j = some v := by
  unfold bindB at h
  split at h
  · rename_i hn
    obtain rfl := Option.some.inj h
    refine ⟨fun i u hu => ?_, by rw [find_cons, if_pos rfl]⟩
    rw [find_cons]
    by_cases e : j = i
    · subst e; rw [hn] at hu; cases hu
    · rw [if_neg e]; exact hu
  · rename_i u hu
    obtain ⟨h1, rfl⟩ := bif_some h
    obtain rfl := optBeq_eq h1
    exact ⟨fun _ _ h => h, hu⟩

/-- What the new history says of the bound names. -/
def valOf (H : Hist) : Option Nat → Option Value
  | some o => H.val o
  | none => some (.slice none 0 0)
def Binds (H H' : Hist) (bs : Bs) : Prop := ∀ j v, find bs j = some v → ∀ u, valOf H v = some u → H'.val j = some u

theorem pkT_le : {sh : Sh} → {t : Tree} → {bs bs' : Bs} → {vs : List Dat} → pkT ob sh t bs = some (vs, bs') → BsLe bs bs'
  | .leaf r, t, bs, bs', vs, h => by
    unfold pkT at h
    split at h <;> cases h
    exact fun _ _ h => h
  | .own j, .own o, bs, bs', vs, h => by
    unfold pkT at h
    split at h <;> cases h
    rename_i hb
    exact (bindB_ok hb).1
  | .own j, .nil, bs, bs', vs, h => by
    unfold pkT at h
    split at h <;> cases h
    rename_i hb
    exact (bindB_ok hb).1
  | .nil, .nil, bs, bs', vs, h => by cases h; exact fun _ _ h => h
  | .pair a b, t, bs, bs', vs, h => by
    unfold pkT at h
    split at h
    case h_2 => cases h
    split at h
    case h_2 => cases h
    rename_i h1
    split at h
    case h_2 => cases h
    rename_i h2
    cases h
    exact fun j v hj => pkT_le h2 j v (pkT_le h1 j v hj)
  | .own _, .leaf _ _, _, _, _, h => by cases h
  | .own _, .pair _ _, _, _, _, h => by cases h
  | .nil, .leaf _ _, _, _, _, h => by cases h
  | .nil, .own _, _, _, _, h => by cases h
  | .nil, .pair _ _, _, _, _, h => by cases h
  | .own _, .view .., _, _, _, h => by cases h
  | .nil, .view .., _, _, _, h => by cases h

theorem pkT_ok (hs : ObSat U H F w ob n) : {sh : Sh} → {t : Tree} → {bs bs' : Bs} → {vs : List Dat} → {cs : List Value} → pkT ob sh t bs = some (vs, bs') → Holds H F w t cs → Binds H H' bs' → ∀ rest,
    Holds H' F w (resT sh (vs ++ rest)).1 cs ∧ (resT sh (vs ++ rest)).2 = rest
  | .leaf r, t, bs, bs', vs, cs, h, hh, hb, rest => by
    unfold pkT at h
    split at h <;> cases h
    rename_i x hf
    refine ⟨?_, rfl⟩
    show Holds H' F w (bif r.beq r then Tree.leaf r x else .nil) cs
    rw [Row.beq_refl, cond_true]
    exact flat_ok hs hf hh
  | .own j, .own o, bs, bs', vs, cs, h, hh, hb, rest => by
    unfold pkT at h
    split at h <;> cases h
    rename_i hbb
    obtain ⟨v, hv, h1, rfl⟩ := hh
    exact ⟨⟨v, hb _ _ (bindB_ok hbb).2 v hv, h1, rfl⟩, rfl⟩
  | .own j, .nil, bs, bs', vs, cs, h, hh, hb, rest => by
    unfold pkT at h
    split at h <;> cases h
    rename_i hbb
    rw [show cs = _ from hh]
    exact ⟨⟨_, hb _ _ (bindB_ok hbb).2 _ rfl, rfl, rfl⟩, rfl⟩
  | .nil, .nil, bs, bs', vs, cs, h, hh, hb, rest => by cases h; exact ⟨hh, rfl⟩
  | .pair a b, t, bs, bs', vs, cs, h, hh, hb, rest => by
    unfold pkT at h
    split at h
    case h_2 => cases h
    rename_i x y hsp
    split at h
    case h_2 => cases h
    rename_i vs1 bs1 h1
    split at h
    case h_2 => cases h
    rename_i us bs2 h2
    cases h
    obtain ⟨c1, c2, rfl, g1, g2, _⟩ := hh.split hsp
    have hb1 : Binds H H' bs1 := fun j v hj => hb j v (pkT_le h2 j v hj)
    obtain ⟨k1, k2⟩ := pkT_ok hs h1 g1 hb1 (us ++ rest)
    obtain ⟨m1, m2⟩ := pkT_ok hs h2 g2 hb rest
    rw [List.append_assoc]
    unfold resT
    rw [k2]
    exact ⟨⟨c1, c2, rfl, k1, m1⟩, m2⟩
  | .own _, .leaf _ _, _, _, _, _, h, _, _, _ => by cases h
  | .own _, .pair _ _, _, _, _, _, h, _, _, _ => by cases h
  | .nil, .leaf _ _, _, _, _, _, h, _, _, _ => by cases h
  | .nil, .own _, _, _, _, _, h, _, _, _ => by cases h
  | .nil, .pair _ _, _, _, _, _, h, _, _, _ => by cases h
  | .own _, .view .., _, _, _, _, h, _, _, _ => by cases h
  | .nil, .view .., _, _, _, _, h, _, _, _ => by cases h

theorem bindCs_le : {js cs : List (Nat × List Bool × Nat)} → {bs bs' : Bs} → bindCs js cs bs = some bs' → BsLe bs bs'
  | [], [], bs, bs', h => by obtain rfl := Option.some.inj h; exact fun _ _ h => h
  | (j, p, off) :: js, (o, p', off') :: cs, bs, bs', h => by
    unfold bindCs at h
    obtain ⟨_, h⟩ := bif_eq h
    split at h
    case h_2 => cases h
    rename_i hb
    exact fun i v hi => bindCs_le h i v ((bindB_ok hb).1 i v hi)
  | [], _ :: _, _, _, h => by cases h
  | _ :: _, [], _, _, h => by cases h
theorem bindCs_ok : {js cs : List (Nat × List Bool × Nat)} → {bs bs' : Bs} → {vs : List Value} → bindCs js cs bs = some bs' → CapsOK H cs vs → Binds H H' bs' → CapsOK H' js vs
  | [], [], bs, bs', vs, h, hc, hb => hc
  | (j, p, off) :: js, (o, p', off') :: cs, bs, bs', vs, h, hc, hb => by
    unfold bindCs at h
    obtain ⟨ho, h'⟩ := bif_eq h
    clear h
    split at h'
    case h_2 => cases h'
    rename_i b1 hbb
    obtain ⟨v, us, rfl, ⟨b, h1, rfl⟩, h2⟩ := hc
    have ho := beq_true ho
    subst ho
    exact ⟨_, us, rfl, ⟨b, hb _ _ (bindCs_le h' _ _ (bindB_ok hbb).2) _ h1, rfl⟩, bindCs_ok h' h2 hb⟩
  | [], _ :: _, _, _, _, h, _, _ => by cases h
  | _ :: _, [], _, _, _, h, _, _ => by cases h

theorem pkS0_le {s : SS} {d : Desc} {bs bs' : Bs} {vs : List Dat} (h : pkS0 ob s d bs = some (vs, bs')) : BsLe bs bs' := by
  unfold pkS0 at h
  split at h
  · obtain ⟨_, h⟩ := bif_eq h
    exact pkT_le h
  · obtain ⟨_, h⟩ := bif_eq h
    split at h <;> cases h
    rename_i hb
    exact (bindB_ok hb).1
  · split at h <;> cases h
    exact fun _ _ h => h
  · cases h
    exact fun _ _ h => h
  · obtain ⟨_, h'⟩ := bif_eq h
    split at h' <;> cases h'
    rename_i hb
    exact bindCs_le hb
  · cases h

theorem pkS1_le {s : SS} {d : Desc} {bs bs' : Bs} {vs : List Dat} (h : pkS1 ob s d bs = some (vs, bs')) : BsLe bs bs' := by
  induction s generalizing d with
  | ifc T s ih =>
    cases d with
    | ifc T' d' =>
      obtain ⟨_, h'⟩ := bif_eq (show (bif Nat.beq T T' then pkS1 ob s d' bs else none) = some (vs, bs') from h)
      exact ih h'
    | _ => cases h
  | _ => exact pkS0_le h

theorem pkS0_ok (hs : ObSat U H F w ob n) {s : SS} {d : Desc} {bs bs' : Bs} {vs : List Dat} {v : Value} (h : pkS0 ob s d bs = some (vs, bs')) (hd : DescOK H F w d v) (hb : Binds H H' bs') (rest : List Dat) :
    DescOK H' F w (resS1 s (vs ++ rest)).1 v ∧ (resS1 s (vs ++ rest)).2 = rest := by
  unfold pkS0 at h
  split at h
  · rename_i agg sh agg' t
    obtain ⟨ha, h'⟩ := bif_eq h
    clear h
    have : agg = agg' := by cases agg <;> cases agg' <;> simp_all
    subst this
    obtain ⟨cs, h1, h2⟩ := hd
    obtain ⟨k1, k2⟩ := pkT_ok hs h' h1 hb rest
    exact ⟨⟨cs, k1, h2⟩, k2⟩
  · rename_i j p off o p' off'
    obtain ⟨ho, h'⟩ := bif_eq h
    clear h
    split at h' <;> cases h'
    rename_i hbb
    obtain ⟨b, h1, h2⟩ := hd
    refine ⟨⟨b, hb _ _ (bindB_ok hbb).2 _ h1, ?_⟩, rfl⟩
    rw [beq_true ho]
    exact h2
  · rename_i r s x
    split at h <;> cases h
    rename_i hbeq
    obtain rfl := Row.eq_of_beq hbeq
    refine ⟨?_, rfl⟩
    show DescOK H' F w (bif s.beq s then Desc.at s x else .dead) v
    rw [Row.beq_refl, cond_true]
    exact hd
  · cases h
    exact ⟨hd, rfl⟩
  · rename_i f js f' cs
    obtain ⟨hf, h'⟩ := bif_eq h
    split at h' <;> cases h'
    rename_i hbb
    obtain ⟨us, h1, h2⟩ := hd
    refine ⟨⟨us, ?_, bindCs_ok hbb h2 hb⟩, rfl⟩
    rw [beq_true hf]
    exact h1
  · cases h

theorem pkS1_ok (hs : ObSat U H F w ob n) {s : SS} {d : Desc} {bs bs' : Bs} {vs : List Dat} {v : Value} (h : pkS1 ob s d bs = some (vs, bs')) (hd : DescOK H F w d v) (hb : Binds H H' bs') (rest : List Dat) :
    DescOK H' F w (resS1 s (vs ++ rest)).1 v ∧ (resS1 s (vs ++ rest)).2 = rest := by
  induction s generalizing d v with
  | ifc T s ih =>
    cases d with
    | ifc T' d' =>
      obtain ⟨hT, h'⟩ := bif_eq (show (bif Nat.beq T T' then pkS1 ob s d' bs else none) = some (vs, bs') from h)
      obtain ⟨u, e, h2⟩ := hd
      obtain ⟨k1, k2⟩ := ih h' h2
      exact ⟨⟨u, by rw [beq_true hT]; exact e, k1⟩, k2⟩
    | _ => cases h
  | _ => exact pkS0_ok hs h hd hb rest

theorem pkS_le : {l : List (Nat × SS)} → {slots : List (Nat × Desc)} → {bs bs' : Bs} → {vs : List Dat} → pkS ob slots l bs = some (vs, bs') → BsLe bs bs'
  | [], _, _, _, _, h => by cases h; exact fun _ _ h => h
  | (t, s) :: l, slots, bs, bs', vs, h => by
    unfold pkS at h
    split at h
    case h_2 => cases h
    split at h
    case h_2 => cases h
    rename_i h1
    split at h
    case h_2 => cases h
    rename_i h2
    cases h
    exact fun j v hj => pkS_le h2 j v (pkS1_le h1 j v hj)

theorem pkS_ok (hs : ObSat U H F w ob n) {slots : List (Nat × Desc)} {ρ : Nat → Value} (hsl : ∀ t d, find slots t = some d → DescOK H F w d (ρ t)) : {l : List (Nat × SS)} → {bs bs' : Bs} → {vs : List Dat} → pkS ob slots l bs = some (vs, bs') → Binds H H' bs' → ∀ rest,
    (∀ t d, find (resS l (vs ++ rest)).1 t = some d → DescOK H' F w d (ρ t)) ∧ (resS l (vs ++ rest)).2 = rest
  | [], bs, bs', vs, h, _, rest => by cases h; exact ⟨fun _ _ h => (by cases h), rfl⟩
  | (t, s) :: l, bs, bs', vs, h, hb, rest => by
    unfold pkS at h
    split at h
    case h_2 => cases h
    rename_i d hd
    split at h
    case h_2 => cases h
    rename_i vs1 bs1 h1
    split at h
    case h_2 => cases h
    rename_i us bs2 h2
    cases h
    have hb1 : Binds H H' bs1 := fun j v hj => hb j v (pkS_le h2 j v hj)
    obtain ⟨k1, k2⟩ := pkS1_ok hs h1 (hsl t d hd) hb1 (us ++ rest)
    obtain ⟨m1, m2⟩ := pkS_ok hs hsl h2 hb rest
    rw [List.append_assoc]
    unfold resS
    rw [k2]
    refine ⟨fun t' d' h' => ?_, m2⟩
    rw [find_cons] at h'
    split at h'
    · rename_i e
      subst e
      obtain rfl := Option.some.inj h'
      exact k1
    · exact m1 t' d' h'
end
end Go.Proofs.YtjeeligfdpociaaGreat

namespace Go.Proofs.YtjeeligfdpociaaGreat
open Go Go.RowKit

def Tree.owns : Tree → List Nat
  | .own o => [o]
  | .pair a b => a.owns ++ b.owns
  | .view o _ _ _ => [o]
  | _ => []
def needT : Sh → Tree → List Nat
  | .leaf _, t => t.owns
  | .pair a b, t => match t.split with
    | some (x, y) => needT a x ++ needT b y
    | none => []
  | _, _ => []
def needS (slots : List (Nat × Desc)) : List (Nat × SS) → List Nat
  | [] => []
  | (t, .val _ sh) :: l => (match find slots t with
    | some (.val _ tr) => needT sh tr
    | _ => []) ++ needS slots l
  | (t, .ifc _ (.val _ sh)) :: l => (match find slots t with
    | some (.ifc _ (.val _ tr)) => needT sh tr
    | _ => []) ++ needS slots l
  | _ :: l => needS slots l
def capOf (j : Nat) : List (Nat × List Bool × Nat) → List (Nat × List Bool × Nat) → Option Nat
  | (j', _) :: js, (o, _) :: cs => bif Nat.beq j' j then some o else capOf j js cs
  | _, _ => none
def ptrOf (slots : List (Nat × Desc)) (j : Nat) : List (Nat × SS) → Option Nat
  | [] => none
  | (t, .ptr j' _ _) :: l => bif Nat.beq j' j then (match find slots t with
    | some (.ptr o _ _) => some o
    | _ => none) else ptrOf slots j l
  | (t, .ifc _ (.ptr j' _ _)) :: l => bif Nat.beq j' j then (match find slots t with
    | some (.ifc _ (.ptr o _ _)) => some o
    | _ => none) else ptrOf slots j l
  | (t, .fn _ js) :: l => match (match find slots t with
      | some (.fn _ cs) => capOf j js cs
      | _ => none) with
    | some o => some o
    | none => ptrOf slots j l
  | _ :: l => ptrOf slots j l
def needO (nb : Nat) (slots : List (Nat × Desc)) (ss : List (Nat × SS)) (objs : List (Nat × (Nat × Th))) : List (Nat × OS) → List Nat
  | [] => []
  | (j, .box _ sh) :: l => (match (bif Nat.blt j nb then some j else ptrOf slots j ss) with
    | some o => (match find objs o with
      | some (_, .box _ tr) => needT sh tr
      | _ => [])
    | none => []) ++ needO nb slots ss objs l
  | _ :: l => needO nb slots ss objs l

def idB (nb : Nat) : List (Nat × OS) → Bs
  | [] => []
  | (j, _) :: l => bif Nat.blt j nb then (j, some j) :: idB nb l else idB nb l
def boundB : Bs → List Nat
  | [] => []
  | (_, some o) :: l => o :: boundB l
  | (_, none) :: l => boundB l
def memB (o : Nat) (l : List Nat) : Bool := l.any (Nat.beq o)
def nodupB : List Nat → Bool
  | [] => true
  | o :: l => !memB o l && nodupB l
def keysB (nb nxt : Nat) : Bs → Bool
  | [] => true
  | (j, u) :: l => (bif Nat.blt j nb then optBeq u (some j) else Nat.blt j nxt) && keysB nb nxt l
def frameB (objs : List (Nat × (Nat × Th))) (bound : List Nat) : List (Nat × (Nat × Th)) → Bool
  | [] => true
  | (o, (s, t)) :: l => (match find objs o with
    | some (s', t') => Nat.beq s s' && (bif frozenB t then frozenB t' else !frozenB t')
    | none => false) && !memB o bound && frameB objs bound l

def needV (nb : Nat) (J : JS) (slots : List (Nat × Desc)) (objs : List (Nat × (Nat × Th))) : List Nat := needS slots J.slots ++ needO nb slots J.slots objs J.objs

def packV (nb : Nat) (frame : List (Nat × (Nat × Th))) (J : JS) (slots : List (Nat × Desc)) (objs : List (Nat × (Nat × Th))) : Option (tupDen J.rows × Bs × List (Nat × (Nat × Th))) :=
  match frzAll objs (needV nb J slots objs) with
  | none => none
  | some objs1 => match pkS (find objs1) slots J.slots (idB nb J.objs) with
    | none => none
    | some (vs, bs1) => match pkO (find objs1) J.objs bs1 with
      | none => none
      | some (us, bs2) => bif nodupB (boundB bs2) && keysB nb J.nxt bs2 && Nat.ble (nb + J.objs.length) J.nxt && frameB objs1 (boundB bs2) frame then
          (match toTup J.rows (vs ++ us) with
          | some x => some (x, bs2, objs1)
          | none => none) else none

def conAt : List (Nat × (Nat × Th)) → Nat → Option Th
  | [], _ => none
  | (_, (s, t)) :: l, m => bif Nat.beq s m then some t else conAt l m

def idAt : List (Nat × (Nat × Th)) → Nat → Option Nat
  | [], _ => none
  | (j, (s, _)) :: l, m => bif Nat.beq s m then some j else idAt l m
/-- The blocks of what is bound. -/
def subOf (H : Hist) (ob : Nat → Option (Nat × Th)) : Option (Option Nat) → Nat → Prop
  | some (some o) => match ob o with
    | some (s, _) => H.sub s
    | none => fun _ => False
  | _ => fun _ => False

def mergeH (H : Hist) (nb : Nat) (bs : Bs) (cons : List (Nat × (Nat × Th))) (ob : Nat → Option (Nat × Th)) : Hist where
  val m := if m < nb then H.val m else match find bs m with
    | some u => valOf H u
    | none => none
  con m := if m < nb then H.con m else conAt cons m
  sub m := if m < nb then H.sub m else match idAt cons m with
    | some j => subOf H ob (find bs j)
    | none => fun _ => False

section
variable {U : Nat → Prop} {H H' : Hist} {F : Nat → Prop} {w : World} {n : Nat} {ob : Nat → Option (Nat × Th)}

theorem pkO1_le {j : Nat} {s : OS} {bs bs' : Bs} {vs : List Dat} (h : pkO1 ob j s bs = some (vs, bs')) : BsLe bs bs' := by
  unfold pkO1 at h
  split at h
  · split at h
    case h_2 => cases h
    split at h
    · obtain ⟨_, h'⟩ := bif_eq h
      split at h' <;> cases h'
      exact fun _ _ h => h
    · obtain ⟨_, h'⟩ := bif_eq h
      exact pkT_le h'
    · obtain ⟨_, h'⟩ := bif_eq h
      split at h' <;> cases h'
      exact fun _ _ h => h
    · obtain ⟨_, h'⟩ := bif_eq h
      cases h'
      exact fun _ _ h => h
    · obtain ⟨_, h'⟩ := bif_eq h
      cases h'
      exact fun _ _ h => h
    · cases h
  · split at h <;> cases h
    · exact fun _ _ h => h
    · exact fun _ _ h => h
  · cases h

theorem pkO_le : {l : List (Nat × OS)} → {bs bs' : Bs} → {vs : List Dat} → pkO ob l bs = some (vs, bs') → BsLe bs bs'
  | [], _, _, _, h => by cases h; exact fun _ _ h => h
  | (j, s) :: l, bs, bs', vs, h => by
    unfold pkO at h
    split at h
    case h_2 => cases h
    rename_i h1
    split at h
    case h_2 => cases h
    rename_i h2
    cases h
    exact fun j v hj => pkO_le h2 j v (pkO1_le h1 j v hj)

/-- A carried object. -/
def Carried (H H' : Hist) (F : Nat → Prop) (w : World) (ob : Nat → Option (Nat × Th)) (bs : Bs) (j : Nat) (t : Th) : Prop :=
  ∃ u v, find bs j = some u ∧ valOf H u = some v ∧ v.oneCell' = true ∧ t.base = t ∧ ThOK H' F w (subOf H ob (find bs j)) v t ∧ ∀ k, fp (subOf H ob (find bs j)) v t k → ∃ o s0 t0, u = some o ∧ ob o = some (s0, t0) ∧ H.val o = some v ∧ fp (H.sub s0) v t0 k

theorem pkO1_ok (hs : ObSat U H F w ob n) {j : Nat} {s : OS} {bs bs' : Bs} {vs : List Dat} (h : pkO1 ob j s bs = some (vs, bs')) (hb : Binds H H' bs') (rest : List Dat) :
    Carried H H' F w ob bs j (resO1 s (vs ++ rest)).1 ∧ (resO1 s (vs ++ rest)).2 = rest := by
  unfold pkO1 at h
  split at h
  · rename_i o hbo
    split at h
    case h_2 => cases h
    rename_i s0 t0 hob
    obtain ⟨v, hv, hin⟩ := hs.obj _ _ _ hob
    have hsub : subOf H ob (find bs j) = H.sub s0 := by rw [hbo]; simp [subOf, hob]
    have mk : ∀ t, t.base = t → ThOK H' F w (H.sub s0) v t → (∀ k, fp (H.sub s0) v t k → fp (H.sub s0) v t0 k) → Carried H H' F w ob bs j t := by
      intro t hb hok hf
      refine ⟨some o, v, hbo, hv, hin.one, hb, by rw [hsub]; exact hok, fun k hk => ?_⟩
      rw [hsub] at hk
      exact ⟨o, _, _, rfl, hob, hv, hf k hk⟩
    split at h
    · rename_i T r T' r' l
      obtain ⟨hT, h'⟩ := bif_eq h
      clear h
      split at h' <;> cases h'
      rename_i hbeq
      obtain rfl := Row.eq_of_beq hbeq
      obtain rfl := beq_true hT
      refine ⟨?_, rfl⟩
      show Carried H H' F w ob bs j (bif r'.beq r' then Th.own T r' l else .own T r' [])
      rw [Row.beq_refl, cond_true]
      exact mk _ rfl hin.ok fun k hk => hk
    · rename_i T sh T' t
      obtain ⟨hT, h'⟩ := bif_eq h
      clear h
      obtain rfl := beq_true hT
      obtain ⟨b, es, e, h1, h2⟩ := hin.ok
      obtain ⟨k1, k2⟩ := pkT_ok hs h' h2 hb rest
      exact ⟨mk _ rfl ⟨b, es, e, h1, k1⟩ fun k hk => hk, k2⟩
    · rename_i T K agg V T' K' agg' V' l
      obtain ⟨hT, h'⟩ := bif_eq h
      clear h
      split at h' <;> cases h'
      rename_i hbeq
      obtain ⟨hT1, ha⟩ := and2 hT
      clear hT
      have ha : agg = agg' := by cases agg <;> cases agg' <;> simp_all
      subst ha
      obtain ⟨hK, hV⟩ := hbeq
      obtain rfl := Row.eq_of_beq hK
      obtain rfl := Row.eq_of_beq hV
      obtain rfl := beq_true hT1
      refine ⟨?_, rfl⟩
      show Carried H H' F w ob bs j (if h : K'.beq K' = true ∧ V'.beq V' = true then Th.map T K' agg V' l else .map T K' agg V' [])
      rw [dif_pos ⟨Row.beq_refl _, Row.beq_refl _⟩]
      obtain ⟨b, es, clock, e, h1, h2, h3⟩ := hin.ok
      exact mk _ rfl ⟨b, es, clock, e, h1, h2, h3.hist⟩ fun k hk => hk
    · rename_i T d T' d' l
      obtain ⟨hT, h'⟩ := bif_eq h
      clear h
      obtain ⟨hT1, hd⟩ := and2 hT
      obtain rfl := DR.eq_of_beq hd
      obtain rfl := beq_true hT1
      cases h'
      refine ⟨?_, rfl⟩
      show Carried H H' F w ob bs j (if h : d'.row.beq d'.row = true then Th.deep T d' l none else .deep T d' [] none)
      rw [dif_pos (Row.beq_refl _)]
      exact mk _ rfl hin.ok fun k hk => hk
    · rename_i T K E r T' K' E' r' l
      obtain ⟨hT, h'⟩ := bif_eq h
      clear h
      obtain ⟨hT, hd⟩ := and2 hT
      obtain ⟨hT, hd2⟩ := and2 hT
      obtain ⟨hT1, hE⟩ := and2 hT
      obtain rfl := Row.eq_of_beq hd
      obtain rfl := Row.eq_of_beq hd2
      obtain rfl := beq_true hT1
      obtain rfl := beq_true hE
      cases h'
      refine ⟨?_, rfl⟩
      show Carried H H' F w ob bs j (if h : K'.beq K' = true ∧ r'.beq r' = true then Th.dmap T K' E r' l none else .dmap T K' E r' [] none)
      rw [dif_pos ⟨Row.beq_refl _, Row.beq_refl _⟩]
      obtain ⟨b, es, clock, B, e, h1, h2, h3, h4, _⟩ := hin.ok
      exact mk _ rfl ⟨b, es, clock, B, e, h1, h2, h3.keep (Step.refl F w) (fun _ _ _ e => by cases e) (fun _ _ => rfl), h4, fun _ _ e => by cases e⟩ fun k hk => hk
    · cases h
  · rename_i hbo
    split at h <;> cases h
    · rename_i T r
      refine ⟨?_, rfl⟩
      show Carried H H' F w ob bs j (bif r.beq r then Th.own T r [] else .own T r [])
      rw [Row.beq_refl, cond_true]
      refine ⟨none, _, hbo, rfl, rfl, rfl, (Own.nil 0 F w T r).2, fun k hk => ?_⟩
      have hk' : mine (.slice none 0 0) k := hk
      simp [mine, Value.ownBlock] at hk'
    · rename_i T d
      refine ⟨?_, rfl⟩
      show Carried H H' F w ob bs j (if h : d.row.beq d.row = true then Th.deep T d [] none else .deep T d [] none)
      rw [dif_pos (Row.beq_refl _)]
      have hsub : subOf H ob (find bs j) = fun _ => False := by rw [hbo]; rfl
      refine ⟨none, _, hbo, rfl, rfl, rfl, ?_, fun k hk => ?_⟩
      · rw [hsub]
        exact ⟨[], fun _ _ => False, OwnM.nil F w T d.low, rfl, fun i h => absurd h (by simp), ⟨fun k => by simp [mine, Value.ownBlock], fun _ _ _ h => absurd h (by simp), fun _ _ h => absurd h (by simp)⟩⟩
      · rw [hsub] at hk
        exact hk.elim
  · cases h

theorem conAt_lt : {l : List (Nat × OS)} → {m k : Nat} → {vs : List Dat} → k < m → conAt (resO m l vs) k = none
  | [], _, _, _, _ => rfl
  | (j, s) :: l, m, k, vs, h => by
    show (bif Nat.beq m k then _ else conAt (resO (m + 1) l _) k) = none
    have : Nat.beq m k = false := by
      cases hb : Nat.beq m k with
      | false => rfl
      | true => have := beq_true hb; omega
    rw [this, cond_false]
    exact conAt_lt (by omega)
theorem conAt_ge : {l : List (Nat × OS)} → {m k : Nat} → {vs : List Dat} → m + l.length ≤ k → conAt (resO m l vs) k = none
  | [], _, _, _, _ => rfl
  | (j, s) :: l, m, k, vs, h => by
    show (bif Nat.beq m k then _ else conAt (resO (m + 1) l _) k) = none
    rw [List.length_cons] at h
    have : Nat.beq m k = false := by
      cases hb : Nat.beq m k with
      | false => rfl
      | true => have := beq_true hb; omega
    rw [this, cond_false]
    exact conAt_ge (by omega)

theorem pkO_ok (hs : ObSat U H F w ob n) : {l : List (Nat × OS)} → {bs bs' : Bs} → {vs : List Dat} → pkO ob l bs = some (vs, bs') → Binds H H' bs' → ∀ m,
    ∀ j s t, find (resO m l vs) j = some (s, t) → m ≤ s ∧ s < m + l.length ∧ conAt (resO m l vs) s = some t ∧ idAt (resO m l vs) s = some j ∧ Carried H H' F w ob bs' j t
  | [], _, _, _, h, _, m => by cases h; intro j s t h; cases h
  | (j0, s0) :: l, bs, bs', vs, h, hb, m => by
    unfold pkO at h
    split at h
    case h_2 => cases h
    rename_i vs1 bs1 h1
    split at h
    case h_2 => cases h
    rename_i us bs2 h2
    cases h
    have hb1 : Binds H H' bs1 := fun j v hj => hb j v (pkO_le h2 j v hj)
    obtain ⟨⟨u, v, g1, g2⟩, k2⟩ := pkO1_ok hs h1 hb1 us
    intro j s t hf
    unfold resO at hf ⊢
    rw [find_cons] at hf
    rw [k2] at hf ⊢
    split at hf
    · rename_i e
      subst e
      simp only [Option.some.injEq, Prod.mk.injEq] at hf
      obtain ⟨rfl, rfl⟩ := hf
      have e1 := pkO_le h2 _ _ (pkO1_le h1 _ _ g1)
      rw [g1] at g2
      refine ⟨Nat.le_refl _, by simp, ?_, ?_, u, v, e1, ?_⟩
      · show (bif Nat.beq m m then _ else _) = _
        simp
      · show (bif Nat.beq m m then _ else _) = _
        simp
      · rw [e1]
        exact g2
    · obtain ⟨a1, a2, a3, a4, a5⟩ := pkO_ok hs h2 hb (m + 1) j s t hf
      have : Nat.beq m s = false := by
        cases hb : Nat.beq m s with
        | false => rfl
        | true => have := beq_true hb; omega
      refine ⟨by omega, by rw [List.length_cons]; omega, ?_, ?_, a5⟩
      · show (bif Nat.beq m s then _ else _) = _
        rw [this, cond_false]
        exact a3
      · show (bif Nat.beq m s then _ else _) = _
        rw [this, cond_false]
        exact a4

theorem memB_iff {o : Nat} {l : List Nat} : memB o l = true ↔ o ∈ l := any_beq
theorem boundB_mem : {bs : Bs} → {j o : Nat} → find bs j = some (some o) → o ∈ boundB bs
  | [], _, _, h => by cases h
  | (i, u) :: bs, j, o, h => by
    rw [find_cons] at h
    split at h
    · obtain rfl := Option.some.inj h
      exact List.mem_cons_self
    · have := boundB_mem h
      cases u with
      | none => exact this
      | some q => exact List.mem_cons_of_mem _ this
theorem nodup_inj : {bs : Bs} → nodupB (boundB bs) = true → {j j' o : Nat} → find bs j = some (some o) → find bs j' = some (some o) → j = j'
  | [], _, _, _, _, h, _ => by cases h
  | (i, u) :: bs, hn, j, j', o, h, h' => by
    rw [find_cons] at h h'
    cases u with
    | none =>
      split at h
      · cases h
      · split at h'
        · cases h'
        · exact nodup_inj (bs := bs) hn h h'
    | some q =>
      obtain ⟨hq, hn'⟩ := and2 hn
      have hq : q ∉ boundB bs := fun e => by rw [memB_iff.2 e] at hq; cases hq
      split at h
      · rename_i e1
        obtain rfl : q = o := Option.some.inj (Option.some.inj h)
        split at h'
        · rename_i e2; exact e1.symm.trans e2
        · exact absurd (boundB_mem h') hq
      · split at h'
        · obtain rfl : q = o := Option.some.inj (Option.some.inj h')
          exact absurd (boundB_mem h) hq
        · exact nodup_inj hn' h h'
theorem keysB_ok {nb nxt : Nat} : {bs : Bs} → keysB nb nxt bs = true → {j : Nat} → {u : Option Nat} → find bs j = some u → (j < nb → u = some j) ∧ (nb ≤ j → j < nxt)
  | [], _, _, _, h => by cases h
  | (i, v) :: bs, hk, j, u, h => by
    obtain ⟨h1, h2⟩ := and2 hk
    rw [find_cons] at h
    split at h
    · rename_i e
      subst e
      obtain rfl := Option.some.inj h
      cases hb : Nat.blt i nb with
      | true =>
        rw [hb, cond_true] at h1
        have : i < nb := by simpa using hb
        exact ⟨fun _ => optBeq_eq h1, fun _ => by omega⟩
      | false =>
        rw [hb, cond_false] at h1
        have hge : ¬ i < nb := fun e => by have : Nat.blt i nb = true := by simpa using e
                                           rw [hb] at this; cases this
        exact ⟨fun e => absurd e hge, fun _ => by simpa using h1⟩
    · exact keysB_ok h2 h
theorem frameB_ok {objs : List (Nat × (Nat × Th))} {bound : List Nat} : {fr : List (Nat × (Nat × Th))} → frameB objs bound fr = true → {o s : Nat} → {t : Th} → find fr o = some (s, t) →
    o ∉ bound ∧ ∃ t', find objs o = some (s, t') ∧ frozenB t' = frozenB t
  | [], _, _, _, _, h => by cases h
  | (i, (s0, t0)) :: fr, hf, o, s, t, h => by
    obtain ⟨h1, h2⟩ := and2 hf
    obtain ⟨h1, h3⟩ := and2 h1
    rw [find_cons] at h
    split at h
    · rename_i e
      subst e
      simp only [Option.some.injEq, Prod.mk.injEq] at h
      obtain ⟨rfl, rfl⟩ := h
      split at h1
      · rename_i s' t' ho
        obtain ⟨h4, h5⟩ := and2 h1
        obtain rfl := beq_true h4
        refine ⟨fun e => (by rw [memB_iff.2 e] at h3; cases h3), t', ho, ?_⟩
        cases ha : frozenB t0 <;> cases hb : frozenB t' <;> simp_all
      · cases h1
    · exact frameB_ok h2 h

theorem base_inj {t t' : Th} (h : t.base = t'.base) (hf : frozenB t = frozenB t') : t = t' := by
  cases t <;> cases t' <;> simp_all [Th.base, frozenB]

/-- The whole of a meeting. -/
theorem packV_ok {U' : Nat → Prop} {H0 : Hist} {F0 : Nat → Prop} {w0 : World} {objs0 : List (Nat × (Nat × Th))} {nb : Nat} {ns : List Nat} {J : JS} {slots : List (Nat × Desc)} {objs objs1 : List (Nat × (Nat × Th))} {x : tupDen J.rows} {bs : Bs} {ρ : Nat → Value}
    (h : packV nb (del ns objs0) J slots objs = some (x, bs, objs1)) (hs0 : ObSat U H0 F0 w0 (find objs0) nb) (hall0 : AllNew H0 nb) (hk : Keeps H0 F0 w0 H F w) (hs : ObSat U H F w (find objs) n) (hsl : ∀ t d, find slots t = some d → DescOK H F w d (ρ t)) :
    ∃ F1 H1, ObSat U H F1 w (find objs1) n ∧ (∀ b, F b → F1 b) ∧ (∀ b, F1 b → F b ∨ eaten H (find objs) (needV nb J slots objs) b) ∧ frzAll objs (needV nb J slots objs) = some objs1 ∧ H0.le H1 ∧ Binds H H1 bs ∧ AllNew H1 J.nxt ∧
      (∀ t d, find (resS J.slots (ofTup J.rows x)).1 t = some d → DescOK H1 F1 w d (ρ t)) ∧
      ((∀ b, w.heap.size ≤ b → U' b) → (∀ o s t v k, o ∈ boundB bs → find objs1 o = some (s, t) → H.val o = some v → fp (H.sub s) v t k → U' k) → (∀ o s t v k, find (del ns objs0) o = some (s, t) → H.val o = some v → fp (H.sub s) v t k → U' k) →
        ObSat U' H1 F1 w (find (resO nb J.objs (resS J.slots (ofTup J.rows x)).2 ++ del ns objs0)) J.nxt) := by
  unfold packV at h
  split at h
  case h_1 => cases h
  rename_i objs1' hfz
  split at h
  case h_1 => cases h
  rename_i vs bs1 hS
  split at h
  case h_1 => cases h
  rename_i us bs2 hO
  obtain ⟨hc, h'⟩ := bif_eq h
  clear h
  split at h'
  case h_2 => cases h'
  rename_i x' hx
  cases h'
  obtain ⟨hc, hc4⟩ := and2 hc
  obtain ⟨hc, hc3⟩ := and2 hc
  obtain ⟨hc1, hc2⟩ := and2 hc
  have hc3 : nb + J.objs.length ≤ J.nxt := by simpa using hc3
  obtain ⟨F1, hs1, hF1, hF2⟩ := frzAll_ok hfz hs
  have hst : Step F w F1 w := fun b hb => ⟨hF1 b hb, rfl⟩
  have hsl1 : ∀ t d, find slots t = some d → DescOK H F1 w d (ρ t) := fun t d hd => (hsl t d hd).keep (Hist.le.refl H) hst
  rw [ofTup_toTup hx]
  have cons_def : ∃ cons, cons = resO nb J.objs us := ⟨_, rfl⟩
  obtain ⟨cons, hcons⟩ := cons_def
  have hle0 : H0.le (mergeH H nb bs cons (find objs1)) := by
    have hlt : ∀ s t, H0.con s = some t → s < nb := fun s t hst => by
      rcases Nat.lt_or_ge s nb with h | h
      · exact h
      · rw [(hall0 s h).2] at hst; cases hst
    refine ⟨fun o v ho => ?_, fun s t hst => ?_, fun s t hst => ?_⟩
    · have : o < nb := by
        rcases Nat.lt_or_ge o nb with h | h
        · exact h
        · rw [(hall0 o h).1] at ho; cases ho
      simp [mergeH, this, hk.hist.val _ _ ho]
    · simp [mergeH, hlt s t hst, hk.hist.con _ _ hst]
    · simp [mergeH, hlt s t hst, hk.hist.sub _ _ hst]
  have hbinds : Binds H (mergeH H nb bs cons (find objs1)) bs := by
    intro j u hj v hv
    obtain ⟨a1, a2⟩ := keysB_ok hc2 hj
    by_cases hlt : j < nb
    · obtain rfl := a1 hlt
      simpa [mergeH, hlt, valOf] using hv
    · simpa [mergeH, hlt, hj] using hv
  have hbinds1 : Binds H (mergeH H nb bs cons (find objs1)) bs1 := fun j v hj => hbinds j v (pkO_le hO j v hj)
  obtain ⟨p1, p2⟩ := pkS_ok hs1 hsl1 hS hbinds1 us
  have hall1 : AllNew (mergeH H nb bs cons (find objs1)) J.nxt := fun m hm => by
    have hnb : ¬ m < nb := by omega
    refine ⟨?_, ?_⟩
    · simp only [mergeH, if_neg hnb]
      split
      · rename_i u hu
        have := (keysB_ok hc2 hu).2 (by omega)
        omega
      · rfl
    · simp only [mergeH, if_neg hnb, hcons]
      exact conAt_ge (by omega)
  refine ⟨F1, mergeH H nb bs cons (find objs1), hs1, hF1, hF2, hfz, hle0, hbinds, hall1, p1, fun hU1 hU2 hU3 => ?_⟩
  rw [p2, ← hcons]
  have hobj := pkO_ok (H' := mergeH H nb bs cons (find objs1)) hs1 hO hbinds nb
  rw [← hcons] at hobj
  have part : ∀ o s t, find (cons ++ del ns objs0) o = some (s, t) → find cons o = some (s, t) ∨ find (del ns objs0) o = some (s, t) := by
    intro o s t ho
    rw [find_append] at ho
    cases hm : find cons o with
    | some y => rw [hm] at ho; exact .inl ho
    | none => rw [hm, Option.none_or] at ho; exact .inr ho
  -- the frame's objects
  have hfr : ∀ o s t, find (del ns objs0) o = some (s, t) → o ∉ boundB bs ∧ find objs1 o = some (s, t) ∧ ∃ v, H.val o = some v ∧ (mergeH H nb bs cons (find objs1)).val o = some v ∧ v.oneCell' = true ∧ (mergeH H nb bs cons (find objs1)).con s = some t.base ∧ (mergeH H nb bs cons (find objs1)).sub s = H.sub s ∧ ThOK (mergeH H nb bs cons (find objs1)) F1 w (H.sub s) v t := by
    intro o s t ho
    obtain ⟨q1, t', q2, q3⟩ := frameB_ok hc4 ho
    have ho0 := (find_del.1 ho).2
    obtain ⟨v0, hv0, hin0⟩ := hs0.obj _ _ _ ho0
    obtain ⟨v1, hv1, hin1⟩ := hs1.obj _ _ _ q2
    have e1 := hk.hist.val _ _ hv0
    rw [hv1] at e1
    obtain rfl := Option.some.inj e1
    have e2 := hk.hist.con _ _ hin0.con
    rw [hin1.con] at e2
    have ht := base_inj (Option.some.inj e2) q3
    subst ht
    refine ⟨q1, q2, v1, hv1, hle0.val _ _ hv0, hin1.one, hle0.con _ _ hin0.con, (hle0.sub _ _ hin0.con).trans (hk.hist.sub _ _ hin0.con).symm, ?_⟩
    cases t' with
    | fdeep T d l => exact hin1.ok
    | deep T d l hh =>
      obtain ⟨lh0, _, _, e0, r0, _⟩ := hin0.ok
      refine DSl.mono (show DSl F1 w T d.low _ v1 l (H.sub s) from hin1.ok) (Step.refl F1 w) (fun _ _ => rfl) fun i x' hi A hA hr => ?_
      cases hh with
      | none => exact hr
      | some h =>
        refine ⟨hr.1, fun hh => ?_⟩
        obtain ⟨T', e, q, g1, g2, g3⟩ := hr.2 hh
        obtain ⟨_, _, q0, _, _, k3⟩ := (r0 i (by omega) hi).2 hh
        have e3 := hk.hist.val _ _ k3
        rw [g3] at e3
        exact ⟨T', e, q, g1, g2, by rw [Option.some.inj e3]; exact hle0.val _ _ k3⟩
    | box T tr =>
      obtain ⟨b, es, e, g1, g2⟩ := hin1.ok
      obtain ⟨b', es', e', g1', g2'⟩ := hin0.ok
      exact ⟨b, es, e, g1, Holds.back hk.hist hle0 g2' g2⟩
    | own T r l => exact hin1.ok
    | frz T r l => exact hin1.ok
    | fmap T K agg V l => exact hin1.ok
    | fdmap T K E r l => exact hin1.ok
    | dmap T K E r l hh =>
      obtain ⟨b, es, clock, B, e, g1, g2, g3, g4, g5⟩ := hin1.ok
      obtain ⟨_, _, _, _, _, _, _, _, _, r5⟩ := hin0.ok
      have key : ∀ a o u, hh = some (a, o) → H.val o = some u → (mergeH H nb bs cons (find objs1)).val o = some u := by
        intro a o u e hu
        obtain ⟨u0, hu0⟩ := r5 a o e
        have e3 := hk.hist.val _ _ hu0
        rw [hu] at e3
        rw [Option.some.inj e3]
        exact hle0.val _ _ hu0
      exact ⟨b, es, clock, B, e, g1, g2, g3.keep (Step.refl F1 w) key (fun _ _ => rfl), g4, fun a o e => (g5 a o e).imp fun u hu => key a o u e hu⟩
    | map T K agg V l =>
      obtain ⟨b, es, clock, e, g1, g2, g3⟩ := hin1.ok
      exact ⟨b, es, clock, e, g1, g2, g3.hist⟩
  have hca : ∀ o s t, find cons o = some (s, t) → ∃ v, (mergeH H nb bs cons (find objs1)).val o = some v ∧ v.oneCell' = true ∧ (mergeH H nb bs cons (find objs1)).con s = some t.base ∧ ThOK (mergeH H nb bs cons (find objs1)) F1 w ((mergeH H nb bs cons (find objs1)).sub s) v t ∧
      ∀ k, fp ((mergeH H nb bs cons (find objs1)).sub s) v t k → ∃ o' s0 t0, find bs o = some (some o') ∧ find objs1 o' = some (s0, t0) ∧ H.val o' = some v ∧ fp (H.sub s0) v t0 k := by
    intro o s t ho
    obtain ⟨a1, a2, a3, a4, u, v, b1, b2, b3, b4, b5, b6⟩ := hobj o s t ho
    have hsub : (mergeH H nb bs cons (find objs1)).sub s = subOf H (find objs1) (find bs o) := by
      simp only [mergeH]
      rw [if_neg (by omega), a4]
    rw [hsub]
    refine ⟨v, hbinds o u b1 v b2, b3, ?_, b5, fun k hk => ?_⟩
    · rw [b4]
      simp only [mergeH]
      rw [if_neg (by omega)]
      exact a3
    · obtain ⟨o', s0, t0, c1, c2, c3, c4⟩ := b6 k hk
      exact ⟨o', s0, t0, by rw [b1, c1], c2, c3, c4⟩
  refine ⟨fun o s t ho => ?_, fun o o' s s' t t' v v' hne ho ho' hv hv' k hk hk' => ?_, fun m hm _ => hall1 m hm, hs1.lt, hU1, hs1.gl⟩
  · rcases part o s t ho with h1 | h1
    · obtain ⟨v, a1, a2, a3, a4, a5⟩ := hca o s t h1
      refine ⟨v, a1, a2, a3, a4, fun k hk hF => ?_, fun k hk => ?_, fun k hk => ?_⟩ <;> obtain ⟨o', s0, t0, b1, b2, b3, b4⟩ := a5 k hk <;> obtain ⟨v', hv', hin⟩ := hs1.obj _ _ _ b2
      all_goals
        rw [b3] at hv'
        obtain rfl := Option.some.inj hv'
      · exact hin.no k b4 hF
      · exact hin.lt k b4
      · exact hU2 _ _ _ _ _ (boundB_mem b1) b2 b3 b4
    · obtain ⟨q1, q2, v, a1, a2, a3, a4, a6, a5⟩ := hfr o s t h1
      obtain ⟨v', hv', hin⟩ := hs1.obj _ _ _ q2
      rw [a1] at hv'
      obtain rfl := Option.some.inj hv'
      exact ⟨v, a2, a3, a4, by rw [a6]; exact a5, by rw [a6]; exact hin.no, by rw [a6]; exact hin.lt, fun k hk => hU3 _ _ _ _ _ h1 a1 (by rwa [a6] at hk)⟩
  · rcases part o s t ho with h1 | h1 <;> rcases part o' s' t' ho' with h2 | h2
    · obtain ⟨u, a1, _, _, _, a5⟩ := hca o s t h1
      obtain ⟨u', c1, _, _, _, c5⟩ := hca o' s' t' h2
      rw [hv] at a1
      rw [hv'] at c1
      obtain rfl := Option.some.inj a1
      obtain rfl := Option.some.inj c1
      obtain ⟨p, s0, t0, d1, d2, d3, d4⟩ := a5 k hk
      obtain ⟨p', s0', t0', e1, e2, e3, e4⟩ := c5 k hk'
      refine hs1.apart p p' _ _ _ _ _ _ (fun e => hne ?_) d2 e2 d3 e3 k d4 e4
      subst e
      exact nodup_inj hc1 d1 e1
    · obtain ⟨u, a1, _, _, _, a5⟩ := hca o s t h1
      obtain ⟨q1, q2, u', c1, c2, _, _, c6, _⟩ := hfr o' s' t' h2
      rw [c6] at hk'
      rw [hv] at a1
      rw [hv'] at c2
      obtain rfl := Option.some.inj a1
      obtain rfl := Option.some.inj c2
      obtain ⟨p, s0, t0, d1, d2, d3, d4⟩ := a5 k hk
      exact hs1.apart p o' _ _ _ _ _ _ (fun e => q1 (e ▸ boundB_mem d1)) d2 q2 d3 c1 k d4 hk'
    · obtain ⟨u, a1, _, _, _, a5⟩ := hca o' s' t' h2
      obtain ⟨q1, q2, u', c1, c2, _, _, c6, _⟩ := hfr o s t h1
      rw [c6] at hk
      rw [hv'] at a1
      rw [hv] at c2
      obtain rfl := Option.some.inj a1
      obtain rfl := Option.some.inj c2
      obtain ⟨p, s0, t0, d1, d2, d3, d4⟩ := a5 k hk'
      exact hs1.apart o p _ _ _ _ _ _ (fun e => q1 (e ▸ boundB_mem d1)) q2 d2 c1 d3 k hk d4
    · obtain ⟨q1, q2, u, c1, c2, _, _, c6, _⟩ := hfr o s t h1
      obtain ⟨q1', q2', u', c1', c2', _, _, c6', _⟩ := hfr o' s' t' h2
      rw [c6] at hk
      rw [c6'] at hk'
      rw [hv] at c2
      rw [hv'] at c2'
      obtain rfl := Option.some.inj c2
      obtain rfl := Option.some.inj c2'
      exact hs1.apart o o' _ _ _ _ _ _ hne q2 q2' c1 c1' k hk hk'
end
end Go.Proofs.YtjeeligfdpociaaGreat
