/- Verification of code (plain laws). -/
import Derived.Test.YtomgmnkalommeaaGreatDoorPX5
import Derived.Test.YtomgmnkalommeaaGreatDoorPS
namespace Go.Proofs.YtomgmnkalommeaaGreatDoor
open Go Go.RowKit
set_option maxRecDepth 100000
namespace L

theorem isJump_eq (N : Nat) (op : Int) : M.bytecode_isJump N op = some (decide (50 ≤ op ∧ op ≤ 53)) := by
  unfold M.bytecode_isJump
  by_cases h : 50 ≤ op <;> simp [h]
theorem isInstr_eq (N : Nat) (op : Int) : M.bytecode_isInstruction N op = some (decide (¬ isLazy op ∧ (50 ≤ op ∧ op ≤ 53 ∨ 0 ≤ ar op))) := by
  unfold M.bytecode_isInstruction
  rw [or3c, isJump_eq, arity_eq]
  simp only [Option.bind_some]
  unfold isLazy
  by_cases h : op = 23 ∨ op = 24 ∨ op = 26
  · simp [h]
  · by_cases h2 : 50 ≤ op ∧ op ≤ 53
    · simp [h, h2]
    · simp [h, h2]
theorem isCond_eq (N : Nat) (op : Int) : M.vm_isConditional N op = some (decide (op = 50 ∨ op = 52 ∨ op = 53)) := by
  unfold M.vm_isConditional
  by_cases h : op = 50
  · simp [h]
  · by_cases h2 : op = 52
    · simp [h2]
    · simp [h, h2]

def gd (D : List Int) (k : Nat) : Int := D.getD k (-1)
theorem gd_set {D : List Int} {t : Nat} (ht : t < D.length) (d : Int) (k : Nat) : gd (D.set t d) k = if k = t then d else gd D k := by
  unfold gd List.getD
  by_cases h : k = t
  · subst h
    rw [if_pos rfl, List.getElem?_set_self ht]; rfl
  · rw [if_neg h, List.getElem?_set_ne (by omega)]
theorem gd_idx {D : List Int} {t : Nat} (ht : t < D.length) : idx D (t : Int) = some (gd D t) := by
  rw [idx_nat ht]
  simp [gd, List.getD, ht]

def Bd (D : List Int) : Prop := ∀ k, -1 ≤ gd D k ∧ gd D k ≤ 12
structure Mn (D D' : List Int) (i : Nat) : Prop where
  len : D'.length = D.length
  keep : ∀ k, 0 ≤ gd D k → gd D' k = gd D k
  low : ∀ k, k ≤ i → gd D' k = gd D k
theorem Mn.refl (D : List Int) (i : Nat) : Mn D D i := ⟨rfl, fun _ _ => rfl, fun _ _ => rfl⟩
theorem Mn.trans {A B C : List Int} {i : Nat} (h : Mn A B i) (h' : Mn B C i) : Mn A C i :=
  ⟨h'.len.trans h.len, fun k hk => by rw [h'.keep k (by rw [h.keep k hk]; exact hk), h.keep k hk], fun k hk => by rw [h'.low k hk, h.low k hk]⟩

theorem reach_wp {N : Nat} {D : List Int} {t i : Nat} {d : Int} (ht : t < D.length) (hti : i < t) (hd : 0 ≤ d ∧ d ≤ 12) (hB : Bd D) : Wp (M.bytecode_verifier_reach N (t : Int) d D) fun r => (r.1 = 0 → Mn D r.2 i ∧ Bd r.2 ∧ gd r.2 t = d) ∧ (gd D t = -1 → r = (0, D.set t d)) := by
  unfold M.bytecode_verifier_reach
  rw [gd_idx ht]
  simp only [Option.bind_some, ite_some]
  by_cases h0 : 0 ≤ gd D t
  · rw [decide_eq_true h0]
    simp only [if_true]
    by_cases h1 : gd D t = d
    · rw [if_neg (by simp [h1])]
      refine .some ⟨fun _ => ⟨⟨by simp [setL], fun k _ => ?_, fun k hk => ?_⟩, fun k => ?_, ?_⟩, fun h => by omega⟩ <;> simp only [setL, Int.toNat_natCast, gd_set ht]
      · split
        · rename_i h; rw [h, h1]
        · rfl
      · rw [if_neg (by omega)]
      · split
        · omega
        · exact hB k
      · simp
    · rw [if_pos (by simp [h1])]
      exact .some ⟨fun h => by simp at h, fun h => by omega⟩
  · rw [decide_eq_false h0]
    simp only [Bool.false_eq_true, if_false]
    refine .some ⟨fun _ => ⟨⟨by simp [setL], fun k hk => ?_, fun k hk => ?_⟩, fun k => ?_, ?_⟩, fun h => by simp [setL]⟩ <;> simp only [setL, Int.toNat_natCast, gd_set ht]
    · rw [if_neg (fun h => by rw [h] at hk; exact h0 hk)]
    · rw [if_neg (by omega)]
    · split
      · omega
      · exact hB k
    · simp

def StepOK (len : Nat) (D : List Int) (j : Nat) (n : Ty) : Prop :=
  ((n.1 : Int) = 51 ∧ ∃ t : Nat, (n.2 : Int) = t ∧ j < t ∧ t ≤ len ∧ gd D t = gd D j) ∨
  (((n.1 : Int) = 50 ∨ (n.1 : Int) = 52 ∨ (n.1 : Int) = 53) ∧ 1 ≤ gd D j ∧ gd D (j + 1) = gd D j - 1 ∧ ∃ t : Nat, (n.2 : Int) = t ∧ j < t ∧ t ≤ len ∧ gd D t = if (n.1 : Int) = 50 then gd D j - 1 else gd D j) ∨
  ((n.1 : Int) ≠ 51 ∧ ¬ ((n.1 : Int) = 50 ∨ (n.1 : Int) = 52 ∨ (n.1 : Int) = 53) ∧ 0 ≤ ar n.1 ∧ ar n.1 ≤ gd D j ∧ gd D (j + 1) = gd D j - ar n.1 + 1 ∧ gd D j - ar n.1 + 1 ≤ 12)
theorem StepOK.mono {len j i : Nat} {D D' : List Int} {n : Ty} (h : StepOK len D j n) (hj : 0 ≤ gd D j) (m : Mn D D' i) : StepOK len D' j n := by
  have e := m.keep j hj
  rcases h with ⟨h1, t, h2, h3, h4, h5⟩ | ⟨h1, h2, h3, t, h4, h5, h6, h7⟩ | ⟨h1, h2, h3, h4, h5, h6⟩
  · exact .inl ⟨h1, t, h2, h3, h4, by rw [m.keep t (by omega), h5, e]⟩
  · have e1 := m.keep (j + 1) (by omega)
    have e2 := m.keep t (by rw [h7]; split <;> omega)
    exact .inr (.inl ⟨h1, by omega, by omega, t, h4, h5, h6, by rw [e2, e]; exact h7⟩)
  · have e1 := m.keep (j + 1) (by omega)
    exact .inr (.inr ⟨h1, h2, h3, by omega, by omega, by omega⟩)

theorem step_wp {N : Nat} {code : List Ty} {D : List Int} {i : Nat} (hl : code.length ≤ 128) (hi : i < code.length) (hD : D.length = code.length + 1) (hB : Bd D) (h0 : 0 ≤ gd D i) : Wp (M.bytecode_verifier_step N code (i : Int) code[i] D) fun r => (r.1 = 0 → Mn D r.2 i ∧ Bd r.2 ∧ StepOK code.length r.2 i code[i]) ∧ ((code[i].1 : Int) ≤ 39 → ¬ isLazy code[i].1 → 0 ≤ ar code[i].1 → ar code[i].1 ≤ gd D i → gd D i - ar code[i].1 + 1 ≤ 12 → gd D (i + 1) = -1 → r = (0, D.set (i + 1) (gd D i - ar code[i].1 + 1))) := by
  unfold M.bytecode_verifier_step
  generalize code[i] = n
  obtain ⟨(op : Int), (m : Int)⟩ := n
  dsimp only [rInt, Row.den] at *
  have har := ar_le op
  have hBi := hB i
  rw [isInstr_eq, isJump_eq, gd_idx (by omega), arity_eq, or3c]
  simp only [Option.bind_some, ite_some]
  by_cases c1 : ¬ isLazy op ∧ (50 ≤ op ∧ op ≤ 53 ∨ 0 ≤ ar op)
  case neg =>
    rw [decide_eq_false c1]
    simp only [Bool.not_false, if_true]
    refine .some ⟨fun h => by simp at h, fun h1 h2 h3 => absurd ⟨h2, .inr h3⟩ c1⟩
  rw [decide_eq_true c1]
  simp only [Bool.not_true, Bool.false_eq_true, if_false]
  by_cases c2 : 50 ≤ op ∧ op ≤ 53
  · rw [decide_eq_true c2]
    simp only [if_true]
    by_cases c3 : m ≤ i ∨ (code.length : Int) < m
    · have : (if decide (m ≤ (i : Int)) = true then true else decide ((code.length : Int) < m)) = true := by
        rcases c3 with c | c <;> simp [c]
      rw [if_pos this]
      exact .some ⟨fun h => by simp at h, fun h => by omega⟩
    have hc : (if decide (m ≤ (i : Int)) = true then true else decide ((code.length : Int) < m)) = false := by
      rw [if_neg (by simp; omega)]; simp; omega
    rw [if_neg (by rw [hc]; simp)]
    obtain ⟨t, rfl⟩ : ∃ t : Nat, m = t := ⟨m.toNat, by omega⟩
    refine Wp.dec (fun c4 => ?_) fun c4 => ?_
    · refine Wp.seq _ (reach_wp (t := t) (i := i) (by omega) (by omega) (by omega) hB) fun r hr => .some ⟨fun h => ?_, fun h => by omega⟩
      obtain ⟨a1, a2, a3⟩ := hr.1 h
      exact ⟨a1, a2, .inl ⟨c4, t, rfl, by omega, by omega, by rw [a3, a1.low i (Nat.le_refl _)]⟩⟩
    refine Wp.dec (fun c5 => ?_) fun c5 => by omega
    refine Wp.dec (fun c6 => .some ⟨fun h => by simp at h, fun h => by omega⟩) fun c6 => ?_
    have w1 : IntKind.i64.wrap (gd D i - 1) = gd D i - 1 := wrap_id (by omega) (by omega)
    rw [w1, wrap_succ (by omega)]
    refine Wp.seq _ (reach_wp (t := i + 1) (i := i) (by omega) (by omega) (by omega) hB) fun r hr => ?_
    refine Wp.ndec (fun c7 => .some ⟨fun h => absurd h c7, fun h => by omega⟩) fun c7 => ?_
    obtain ⟨a1, a2, a3⟩ := hr.1 c7
    have hlow := a1.low i (Nat.le_refl _)
    refine Wp.seq _ (reach_wp (D := r.2) (t := t) (i := i) (by rw [a1.len]; omega) (by omega) (by split <;> omega) a2) fun r' hr' => .some ⟨fun h => ?_, fun h => by omega⟩
    obtain ⟨b1, b2, b3⟩ := hr'.1 h
    refine ⟨a1.trans b1, b2, .inr (.inl ⟨c5, ?_, ?_, t, rfl, by omega, by omega, ?_⟩)⟩
    · rw [b1.low i (Nat.le_refl _)]; show 1 ≤ gd r.2 i; omega
    · show gd r'.2 (i + 1) = gd r'.2 i - 1
      rw [b1.low i (Nat.le_refl _), b1.keep (i + 1) (by omega)]; omega
    · show gd r'.2 t = if op = 50 then gd r'.2 i - 1 else gd r'.2 i
      rw [b1.low i (Nat.le_refl _), b3, hlow]
      by_cases h50 : op = 50 <;> simp [h50]
  · rw [decide_eq_false c2]
    simp only [Bool.false_eq_true, if_false]
    refine Wp.dec (fun c4 => by omega) fun c4 => ?_
    refine Wp.dec (fun c5 => by omega) fun c5 => ?_
    refine Wp.dec (fun c6 => .some ⟨fun h => by simp at h, fun _ _ _ h => by omega⟩) fun c6 => ?_
    have w1 : IntKind.i64.wrap (gd D i - ar op) = gd D i - ar op := wrap_id (by omega) (by omega)
    have w2 : IntKind.i64.wrap (gd D i - ar op + 1) = gd D i - ar op + 1 := wrap_id (by omega) (by omega)
    rw [w1, w2]
    refine Wp.dec (fun c7 => .some ⟨fun h => by simp at h, fun _ _ _ _ h => by omega⟩) fun c7 => ?_
    rw [wrap_succ (by omega)]
    refine Wp.seq _ (reach_wp (t := i + 1) (i := i) (by omega) (by omega) (by omega) hB) fun r hr => .some ⟨fun h => ?_, fun _ _ _ _ _ h => hr.2 h⟩
    obtain ⟨a1, a2, a3⟩ := hr.1 h
    have hlow := a1.low i (Nat.le_refl _)
    exact ⟨a1, a2, .inr (.inr ⟨c4, c5, by show 0 ≤ ar op; omega, by show ar op ≤ gd r.2 i; omega, by show gd r.2 (i + 1) = gd r.2 i - ar op + 1; omega, by show gd r.2 i - ar op + 1 ≤ 12; omega⟩)⟩

/-- What Verify has shown of code. -/
structure VerOK (code : List Ty) (D : List Int) : Prop where
  pos : 0 < code.length
  le : code.length ≤ 128
  len : D.length = code.length + 1
  bd : Bd D
  first : gd D 0 = 0
  last : gd D code.length = 1
  step : ∀ j (h : j < code.length), 0 ≤ gd D j → StepOK code.length D j code[j]

/-- Straight code. -/
def Str (code : List Ty) (st : List Nat) : Prop := Whole code st ∧ ∀ n ∈ code, (n.1 : Int) ≤ 39 ∧ ¬ isLazy n.1

theorem gd_rep (n k : Nat) : gd (List.replicate n (-1)) k = -1 := by
  unfold gd List.getD
  by_cases h : k < n
  · simp [h]
  · rw [List.getElem?_eq_none (by simp; omega)]; rfl

theorem Verify_wp (code : List Ty) : Wp (M.bytecode_Verify big code) fun y => (y.2 = 0 → ∃ D, VerOK code D) ∧ (∀ st, Str code st → y.2 = 0) := by
  unfold M.bytecode_Verify
  refine Wp.dec (fun h => .some ⟨fun h => by simp at h, fun st h' => by have := h'.1.le; omega⟩) fun h1 => ?_
  refine Wp.dec (fun h => .some ⟨fun h => by simp at h, fun st h' => by have := List.length_pos_iff.2 h'.1.ne; omega⟩) fun h2 => ?_
  have hl : code.length ≤ 128 := by omega
  have hp : 0 < code.length := by omega
  rw [wrap_succ (by omega)]
  have hmk : mkL ((code.length + 1 : Nat) : Int) (0 : Int) = some (List.replicate (code.length + 1) 0) := by
    unfold mkL
    rw [if_pos (by omega), Int.toNat_natCast]
  rw [hmk]
  simp only [Option.bind_some]
  refine Wp.seq (· = List.replicate (code.length + 1) (-1 : Int)) ?_ ?_
  · refine Wp.loop (fun s : Int × List Int => ∃ k m : Nat, s = ((k : Int), List.replicate k (-1) ++ List.replicate m 0) ∧ k + m = code.length + 1) (fun s => (code.length + 1 - s.1).toNat) ⟨0, code.length + 1, by simp, by omega⟩ (by unfold big; simp only; omega) ?_
    rintro _ ⟨k, m, rfl, hk⟩
    simp only [List.length_replicate]
    refine Wp.dec (fun h => ?_) fun h => .some ?_
    · obtain ⟨m, rfl⟩ : ∃ m', m = m' + 1 := ⟨m - 1, by omega⟩
      rw [idx_nat (by simp)]
      simp only [Option.bind_some]
      rw [wrap_succ (by omega)]
      refine .some ⟨⟨k + 1, m, ?_, by omega⟩, by simp only; omega⟩
      refine Prod.ext rfl ?_
      simp only [setL, Int.toNat_natCast]
      rw [List.set_append_right _ _ (by simp), List.replicate_succ]
      simp [List.replicate_succ']
    · obtain rfl : m = 0 := by omega
      obtain rfl : k = code.length + 1 := by omega
      show _ = _
      simp
  rintro _ rfl
  have e1 : idx (List.replicate (code.length + 1) (-1 : Int)) 0 = some (-1) := by rw [List.replicate_succ]; rfl
  rw [e1]
  simp only [Option.bind_some]
  have e0 : setL (List.replicate (code.length + 1) (-1 : Int)) (0 : Int) (0 : Int) = (List.replicate (code.length + 1) (-1 : Int)).set 0 0 := rfl
  rw [e0]
  have g0 : ∀ k, gd ((List.replicate (code.length + 1) (-1 : Int)).set 0 0) k = if k = 0 then 0 else -1 := fun k => by
    rw [gd_set (by simp), gd_rep]
  refine Wp.join (Wp.loop (fun s : Int × Int × List Int => ∃ i : Nat, s.2.1 = i ∧ i ≤ code.length ∧ s.2.2.length = code.length + 1 ∧ Bd s.2.2 ∧ gd s.2.2 0 = 0 ∧ (∀ j (h : j < code.length), j < i → 0 ≤ gd s.2.2 j → StepOK code.length s.2.2 j code[j]) ∧ ∀ st, Str code st → ∃ l, Ch st i l ∧ gd s.2.2 i = l.length ∧ ∀ j, i < j → gd s.2.2 j = -1) (fun s => (code.length - s.2.1).toNat) ⟨0, rfl, Nat.zero_le _, by simp, fun k => ?_, ?_, fun j _ h => by omega, fun st _ => ⟨[], .nil, ?_, fun j hj => ?_⟩⟩ (by unfold big; simp only; omega) ?_)
  · simp only [g0]; split <;> omega
  · simp only [g0]; rfl
  · simp only [g0]; rfl
  · simp only [g0]; rw [if_neg (by omega)]
  rintro ⟨g, at', D⟩ ⟨i, hat, hi, hD, hB, hz, hs, hst⟩
  dsimp only at hat hi hD hB hz hs hst ⊢
  subst hat
  refine Wp.dec (fun hlt => ?_) fun hge => .some ?_
  · have hlt : i < code.length := by omega
    rw [wrap_succ (by omega), idx_nat hlt, gd_idx (by omega)]
    simp only [Option.bind_some]
    refine Wp.join ?_
    refine Wp.dec (fun hneg => .some ?_) fun hpos => ?_
    · refine Wp.some ?_
      refine ⟨⟨i + 1, rfl, hlt, hD, hB, hz, fun j h hj h0 => hs j h ?_ h0, fun st h => ?_⟩, by simp only; omega⟩
      · rcases Nat.lt_or_ge j i with h' | h'
        · exact h'
        · have : j = i := by omega
          subst this
          dsimp only at h0; omega
      · obtain ⟨l, _, h2, _⟩ := hst st h
        omega
    · refine Wp.seq _ (step_wp hl hlt hD hB (by omega)) fun r hr => ?_
      have hstr : ∀ st, Str code st → r.1 = 0 ∧ ∃ l, Ch st (i + 1) l ∧ gd r.2 (i + 1) = l.length ∧ ∀ j, i + 1 < j → gd r.2 j = -1 := by
        intro st h
        obtain ⟨l, c1, c2, c3⟩ := hst st h
        obtain ⟨v1, l', v2, v3, v4, v5⟩ := h.1.val.node i hlt
        obtain rfl := v2.uniq c1
        have hm := h.2 _ (List.getElem_mem hlt)
        have hd : gd D i - ar code[i].1 + 1 ≤ 12 := by omega
        have e := hr.2 hm.1 hm.2 v1 (by omega) hd (c3 _ (by omega))
        refine ⟨by rw [e], _, c1.next v1 v3 v5, ?_, fun j hj => ?_⟩
        · rw [e, gd_set (by omega), if_pos rfl]
          simp
          omega
        · rw [e, gd_set (by omega), if_neg (by omega)]
          exact c3 j (by omega)
      refine Wp.ndec (fun hne => .some ?_) fun hok => .some ?_
      · exact (⟨fun h => absurd h hne, fun st h => (hstr st h).1⟩ : (r.1 = 0 → ∃ D, VerOK code D) ∧ ∀ st, Str code st → r.1 = 0)
      · obtain ⟨a1, a2, a3⟩ := hr.1 hok
        refine Wp.some ?_
        refine ⟨⟨i + 1, rfl, hlt, by rw [← hD]; exact a1.len, a2, by rw [← hz]; exact a1.low 0 (Nat.zero_le _), fun j h hj h0 => ?_, fun st h => (hstr st h).2⟩, by simp only; omega⟩
        rcases Nat.lt_or_ge j i with h' | h'
        · have e := a1.low j (by omega)
          have h0' : 0 ≤ gd D j := by rw [← e]; exact h0
          exact (hs j h h' h0').mono h0' a1
        · have : j = i := by omega
          subst this
          exact a3
  · obtain rfl : i = code.length := by omega
    show Wp ((idx D (code.length : Int)).bind _) _
    rw [gd_idx (by omega)]
    simp only [Option.bind_some]
    refine Wp.dec (fun h => .some ⟨fun h => by simp at h, fun st h' => ?_⟩) fun h3 => ?_
    · obtain ⟨l, c1, c2, _⟩ := hst st h'
      have := List.length_pos_iff.2 (c1.pos hp)
      omega
    refine Wp.dec (fun h => .some ⟨fun h => by simp at h, fun st h' => ?_⟩) fun h4 => .some ⟨fun _ => ⟨D, hp, hl, hD, hB, hz, by omega, fun j h h0 => hs j h h h0⟩, fun _ _ => rfl⟩
    · obtain ⟨l, c1, c2, _⟩ := hst st h'
      have := (c1.one hp).2 h'.1.one
      omega

def RunQ (code : List Ty) (r : Vl × Int × Int) : Prop := ∃ y, M.bytecode_Verify big code = some y ∧ (y.2 ≠ 0 → r.2 = (0, 1)) ∧ (y.2 = 0 → (r.2.2 ≠ 0 → r.2.2 ≠ 1 ∧ r.2.1 = 0) ∧ (r.2.2 = 0 → 1 ≤ r.2.1 ∧ r.2.1 ≤ (code.length : Int)))

theorem Run_wp {code : List Ty} {env : rEnv.den} (he : EnvOK env) (hw : ∀ n ∈ code, WF rType n) : Wp (M.vm_Run big code env) (RunQ code) := by
  obtain ⟨y, hy, hv, _⟩ := Verify_wp code
  unfold M.vm_Run
  rw [hy]
  simp only [Option.bind_some]
  refine Wp.ndec (fun h => .some ⟨y, hy, fun _ => rfl, fun h' => absurd h' h⟩) fun h0 => ?_
  obtain ⟨D, d⟩ := hv h0
  have hle := d.le
  have hpos := d.pos
  refine Wp.mono (Q := fun r => (r.2.2 ≠ 0 → r.2.2 ≠ 1 ∧ r.2.1 = 0) ∧ (r.2.2 = 0 → 1 ≤ r.2.1 ∧ r.2.1 ≤ (code.length : Int))) ?_ fun r hr => ⟨y, hy, fun h => absurd h0 h, fun _ => hr⟩
  refine Wp.join (Wp.loop (fun s : Int × Int × List Vl => ∃ q k : Nat, s.1 = q ∧ s.2.1 = k ∧ k ≤ code.length ∧ gd D k = s.2.2.length ∧ q ≤ k ∧ (k = 0 ∨ 1 ≤ q)) (fun s => (code.length - s.2.1).toNat) ⟨0, 0, rfl, rfl, Nat.zero_le _, d.first, Nat.le_refl _, .inl rfl⟩ (by unfold big; simp only; omega) ?_)
  rintro ⟨_, _, stk⟩ ⟨q, k, rfl, rfl, hk, hD, hq, hz⟩
  dsimp only at hD ⊢
  have hb := d.bd k
  refine Wp.dec (fun hlt => ?_) fun hge => .some ?_
  · have hlt : k < code.length := by omega
    have hwn := hw _ (List.getElem_mem hlt)
    have hs := d.step k hlt (by omega)
    rw [idx_nat hlt]
    generalize code[k] = n at hs hwn
    simp only [Option.bind_some, isCond_eq, arity_eq, ite_some]
    rw [wrap_succ (k := q) (by omega)]
    refine Wp.join ?_
    rcases hs with ⟨h1, t, h2, h3, h4, h5⟩ | ⟨h1, h2, h3, t, h4, h5, h6, h7⟩ | ⟨h1, h2, h3, h4, h5, h6⟩
    · refine Wp.dec (fun _ => .some ?_) fun hne => absurd h1 hne
      refine Wp.some ⟨⟨q + 1, t, rfl, h2, h4, by rw [h5]; exact hD, by omega, .inr (by omega)⟩, ?_⟩
      simp only [h2]; omega
    · refine Wp.dec (fun h => by rcases h1 with h1 | h1 | h1 <;> (rw [h] at h1; exact absurd h1 (by decide))) fun _ => ?_
      rw [decide_eq_true h1]
      simp only [Bool.not_true, Bool.false_eq_true, if_false]
      have hsl : 1 ≤ stk.length := by omega
      have wl : IntKind.i64.wrap ((stk.length : Int) - 1) = ((stk.length - 1 : Nat) : Int) := by rw [wrap_id (by omega) (by omega)]; omega
      rw [wl, idx_nat (by omega)]
      simp only [Option.bind_some]
      generalize stk[stk.length - 1] = top
      refine Wp.ite (fun _ => .some ?_) fun _ => ?_
      · exact (⟨fun _ => ⟨by decide, rfl⟩, fun h => by simp at h⟩ : ((8 : Int) ≠ 0 → (8 : Int) ≠ 1 ∧ (0 : Int) = 0) ∧ ((8 : Int) = 0 → (1 : Int) ≤ 0 ∧ (0 : Int) ≤ (code.length : Int)))
      rw [cutA_zero (by omega), wrap_succ (k := k) (by omega)]
      simp only [Option.bind_some]
      have hjt : ∀ b : Bool, (if b = true then n.2 else ((k + 1 : Nat) : Int)) = ((if b = true then t else k + 1 : Nat) : Int) := fun b => by cases b <;> simp [h4]
      rw [hjt]
      generalize hjb : (decide (decide ((top.2.2 : Int) = 1) = decide ((n.1 : Int) = 53))) = b
      have hstep : ∀ (l : List Vl), gd D (if b = true then t else k + 1) = l.length → Wp (α := (Int × Int × List Vl) ⊕ (Int × List Vl) ⊕ (Vl × Int × Int)) (some (Sum.inl (((q + 1 : Nat) : Int), ((if b = true then t else k + 1 : Nat) : Int), l))) (LoopW (fun s : Int × Int × List Vl => ∃ q k : Nat, s.1 = q ∧ s.2.1 = k ∧ k ≤ code.length ∧ gd D k = s.2.2.length ∧ q ≤ k ∧ (k = 0 ∨ 1 ≤ q)) (fun s => (code.length - s.2.1).toNat) ((q : Int), (k : Int), stk) (JoinQ (fun j2 : Int × List Vl => (idx j2.2 0).bind fun x17 => some (x17, j2.1, 0)) fun r => (r.2.2 ≠ 0 → r.2.2 ≠ 1 ∧ r.2.1 = 0) ∧ (r.2.2 = 0 → 1 ≤ r.2.1 ∧ r.2.1 ≤ (code.length : Int)))) := by
        intro l hl
        refine .some ⟨⟨q + 1, if b = true then t else k + 1, rfl, rfl, by split <;> omega, hl, by split <;> omega, .inr (by omega)⟩, ?_⟩
        simp only; split <;> omega
      refine Wp.ite (fun hp => ?_) fun hp => ?_
      · refine .some (hstep _ ?_)
        rw [List.length_take, Nat.min_eq_left (by omega)]
        split
        · rename_i hbt
          rw [h7]
          have h50 : (n.1 : Int) = 50 := by simpa [hbt] using hp
          rw [if_pos h50]; omega
        · rw [h3]; omega
      · refine .some (hstep _ ?_)
        have hbt : b = true := by cases b <;> simp at hp ⊢
        subst hbt
        have h50 : ¬ (n.1 : Int) = 50 := by simpa using hp
        rw [if_pos rfl, h7, if_neg h50]; exact hD
    · refine Wp.dec (fun h => absurd h h1) fun _ => ?_
      rw [decide_eq_false h2]
      simp only [Bool.not_false, if_true]
      obtain ⟨a, ha⟩ : ∃ a : Nat, ar n.1 = a := ⟨(ar n.1).toNat, by omega⟩
      rw [ha] at h3 h4 h5 h6 ⊢
      have wl : IntKind.i64.wrap ((stk.length : Int) - (a : Int)) = ((stk.length - a : Nat) : Int) := by rw [wrap_id (by omega) (by omega)]; omega
      rw [wl, cutA_eq (stk.length - a) stk.length rfl rfl (by omega) (Nat.le_refl _), cutA_zero (by omega), wrap_succ (k := k) (by omega)]
      simp only [Option.bind_some]
      refine Wp.seq _ (Apply_wp he hwn (by simp; omega)) fun r hr => ?_
      refine Wp.ndec (fun hne => .some ?_) fun hok => ?_
      · have hc := hr.code
        exact (⟨fun _ => ⟨by omega, rfl⟩, fun h => absurd h hne⟩ : (r.2 ≠ 0 → r.2 ≠ 1 ∧ (0 : Int) = 0) ∧ (r.2 = 0 → (1 : Int) ≤ 0 ∧ (0 : Int) ≤ (code.length : Int)))
      · rw [appA_some (by simp; omega)]
        simp only [Option.bind_some]
        refine .some (Wp.some ⟨⟨q + 1, k + 1, rfl, rfl, hlt, ?_, by omega, .inr (by omega)⟩, ?_⟩)
        · rw [h5, hD]
          simp only [List.length_append, List.length_take, List.length_singleton]
          rw [Nat.min_eq_left (by omega)]
          omega
        · simp only; omega
  · obtain rfl : k = code.length := by omega
    show Wp ((idx stk 0).bind _) _
    have hl := d.last
    obtain ⟨v, vs, rfl⟩ : ∃ v vs, stk = v :: vs := by
      cases stk with
      | nil => simp at hD; omega
      | cons v vs => exact ⟨v, vs, rfl⟩
    refine .some ⟨fun h => absurd rfl h, fun _ => ⟨?_, ?_⟩⟩ <;> simp only <;> omega

theorem idx_mid' {α : Type} (p : List α) (x : α) : idx (p ++ [x]) (p.length : Int) = some x := by
  rw [idx_nat (by simp)]
  simp
def jmp (n : Ty) (top : Vl) : Bool := decide (decide ((top.2.2 : Int) = 1) = decide ((n.1 : Int) = 53))
/-- From position p and stack S the machine ends with a value and a code. -/
inductive Runs (code : List Ty) (env : rEnv.den) : Nat → List Vl → Vl × Int → Prop
  | done {v : Vl} {S : List Vl} : Runs code env code.length (v :: S) (v, 0)
  | jump {p t : Nat} {S : List Vl} {r : Vl × Int} {n : Ty} (h : code[p]? = some n) (h51 : (n.1 : Int) = 51) (ht : (n.2 : Int) = t) (hpt : p < t) (htl : t ≤ code.length) (next : Runs code env t S r) : Runs code env p S r
  | op {p a : Nat} {S : List Vl} {r : Vl × Int} {n : Ty} (h : code[p]? = some n) (hne : ¬ (50 ≤ (n.1 : Int) ∧ (n.1 : Int) ≤ 53)) (ha : ar n.1 = a) (hs : a ≤ S.length) (h0 : (apE env n (S.drop (S.length - a))).2 = 0) (next : Runs code env (p + 1) (S.take (S.length - a) ++ [(apE env n (S.drop (S.length - a))).1]) r) : Runs code env p S r
  | fail {p a : Nat} {S : List Vl} {n : Ty} (h : code[p]? = some n) (hne : ¬ (50 ≤ (n.1 : Int) ∧ (n.1 : Int) ≤ 53)) (ha : ar n.1 = a) (hs : a ≤ S.length) (h0 : (apE env n (S.drop (S.length - a))).2 ≠ 0) : Runs code env p S (z3, (apE env n (S.drop (S.length - a))).2)
  | cond {p t : Nat} {S : List Vl} {r : Vl × Int} {n : Ty} {top : Vl} (h : code[p]? = some n) (hop : (n.1 : Int) = 50 ∨ (n.1 : Int) = 52 ∨ (n.1 : Int) = 53) (ht : (n.2 : Int) = t) (hpt : p < t) (htl : t ≤ code.length) (hk : (top.1 : Int) = 1) (hv : (top.2.2 : Int) = 0 ∨ (top.2.2 : Int) = 1) (next : Runs code env (if jmp n top = true then t else p + 1) (if jmp n top = false ∨ (n.1 : Int) = 50 then S else S ++ [top]) r) : Runs code env p (S ++ [top]) r

theorem Run_runs {code : List Ty} {env : rEnv.den} {r : Vl × Int} (he : EnvOK env) (hw : ∀ n ∈ code, WF rType n) (hl : code.length ≤ 128) (hver : Wp (M.bytecode_Verify big code) fun y => y.2 = 0) (hr : Runs code env 0 [] r) : Wp (M.vm_Run big code env) fun x => x.1 = r.1 ∧ x.2.2 = r.2 := by
  unfold M.vm_Run
  refine Wp.seq _ hver fun y hy => ?_
  refine Wp.ndec (fun h => absurd hy h) fun _ => ?_
  refine Wp.join (Wp.loop (fun s : Int × Int × List Vl => ∃ q k : Nat, s.1 = q ∧ s.2.1 = k ∧ k ≤ code.length ∧ q ≤ k ∧ s.2.2.length ≤ k ∧ Runs code env k s.2.2 r) (fun s => (code.length - s.2.1).toNat) ⟨0, 0, rfl, rfl, Nat.zero_le _, Nat.le_refl _, Nat.le_refl _, hr⟩ (by unfold big; simp only; omega) ?_)
  rintro ⟨_, _, stk⟩ ⟨q, k, rfl, rfl, hk, hq, hsk, hrun⟩
  dsimp only at hsk hrun ⊢
  cases hrun with
  | @done v S =>
    refine Wp.dec (fun h => by omega) fun _ => .some ?_
    show Wp ((idx (v :: S) (0 : Int)).bind _) _
    exact .some ⟨rfl, rfl⟩
  | @jump _ t _ _ n h h51 ht hpt htl next =>
    obtain ⟨hlt, hn⟩ := List.getElem?_eq_some_iff.1 h
    refine Wp.dec (fun _ => ?_) fun h => by omega
    rw [idx_nat hlt, hn]
    simp only [Option.bind_some]
    rw [wrap_succ (k := q) (by omega)]
    refine Wp.join (Wp.dec (fun _ => .some ?_) fun h => absurd h51 h)
    refine Wp.some ⟨⟨q + 1, t, rfl, ht, htl, by omega, by show stk.length ≤ t; omega, next⟩, ?_⟩
    simp only [ht]; omega
  | @op _ a _ _ n h hne ha hs h0 next =>
    obtain ⟨hlt, hn⟩ := List.getElem?_eq_some_iff.1 h
    have hwn : WF rType n := hw n (List.mem_of_getElem? h)
    refine Wp.dec (fun _ => ?_) fun h => by omega
    rw [idx_nat hlt, hn]
    simp only [Option.bind_some, isCond_eq, arity_eq, ite_some]
    rw [wrap_succ (k := q) (by omega)]
    have n1 : ¬ (n.1 : Int) = 51 := fun h => hne (by rw [h]; decide)
    have n2 : ¬ ((n.1 : Int) = 50 ∨ (n.1 : Int) = 52 ∨ (n.1 : Int) = 53) := fun h => hne (by rcases h with h | h | h <;> rw [h] <;> decide)
    refine Wp.join (Wp.dec (fun h => absurd h n1) fun _ => ?_)
    rw [decide_eq_false n2]
    simp only [Bool.not_false, if_true]
    have wl : IntKind.i64.wrap ((stk.length : Int) - (a : Int)) = ((stk.length - a : Nat) : Int) := by rw [wrap_id (by omega) (by omega)]; omega
    rw [ha, wl, cutA_eq (stk.length - a) stk.length rfl rfl (by omega) (Nat.le_refl _), cutA_zero (by omega), List.take_length, wrap_succ (k := k) (by omega)]
    simp only [Option.bind_some]
    rw [ap_eq he hwn (by simp; omega)]
    simp only [Option.bind_some]
    refine Wp.ndec (fun h => absurd h0 h) fun _ => ?_
    rw [appA_some (by simp; omega)]
    simp only [Option.bind_some]
    refine .some (Wp.some ⟨⟨q + 1, k + 1, rfl, rfl, hlt, by omega, ?_, next⟩, by simp only; omega⟩)
    simp; omega
  | @fail _ a _ n h hne ha hs h0 =>
    obtain ⟨hlt, hn⟩ := List.getElem?_eq_some_iff.1 h
    have hwn : WF rType n := hw n (List.mem_of_getElem? h)
    refine Wp.dec (fun _ => ?_) fun h => by omega
    rw [idx_nat hlt, hn]
    simp only [Option.bind_some, isCond_eq, arity_eq, ite_some]
    have n1 : ¬ (n.1 : Int) = 51 := fun h => hne (by rw [h]; decide)
    have n2 : ¬ ((n.1 : Int) = 50 ∨ (n.1 : Int) = 52 ∨ (n.1 : Int) = 53) := fun h => hne (by rcases h with h | h | h <;> rw [h] <;> decide)
    refine Wp.join (Wp.dec (fun h => absurd h n1) fun _ => ?_)
    rw [decide_eq_false n2]
    simp only [Bool.not_false, if_true]
    have wl : IntKind.i64.wrap ((stk.length : Int) - (a : Int)) = ((stk.length - a : Nat) : Int) := by rw [wrap_id (by omega) (by omega)]; omega
    rw [ha, wl, cutA_eq (stk.length - a) stk.length rfl rfl (by omega) (Nat.le_refl _), List.take_length]
    simp only [Option.bind_some]
    rw [ap_eq he hwn (by simp; omega)]
    simp only [Option.bind_some]
    refine Wp.ndec (fun _ => .some ?_) fun h => absurd h h0
    exact ⟨rfl, rfl⟩
  | @cond _ t S _ n top h hop ht hpt htl hkd hv next =>
    obtain ⟨hlt, hn⟩ := List.getElem?_eq_some_iff.1 h
    refine Wp.dec (fun _ => ?_) fun h => by omega
    rw [idx_nat hlt, hn]
    simp only [Option.bind_some, isCond_eq, arity_eq, ite_some]
    rw [wrap_succ (k := q) (by omega)]
    have n1 : ¬ (n.1 : Int) = 51 := fun h => by rcases hop with g | g | g <;> (rw [h] at g; exact absurd g (by decide))
    refine Wp.join (Wp.dec (fun h => absurd h n1) fun _ => ?_)
    rw [decide_eq_true hop]
    simp only [Bool.not_true, Bool.false_eq_true, if_false]
    rw [List.length_append, List.length_singleton] at hsk ⊢
    have wl : IntKind.i64.wrap (((S.length + 1 : Nat) : Int) - 1) = (S.length : Int) := by rw [wrap_id (by omega) (by omega)]; omega
    rw [wl, idx_mid' S top]
    simp only [Option.bind_some]
    rw [if_neg (by rw [hkd]; rcases hv with g | g <;> rw [g] <;> simp)]
    rw [cutA_zero (by simp), wrap_succ (k := k) (by omega), List.take_append_of_le_length (Nat.le_refl _), List.take_length]
    simp only [Option.bind_some]
    have hjt : ∀ b : Bool, (if b = true then n.2 else ((k + 1 : Nat) : Int)) = ((if b = true then t else k + 1 : Nat) : Int) := fun b => by cases b <;> simp [ht]
    rw [hjt]
    have hb : decide (decide ((top.2.2 : Int) = 1) = decide ((n.1 : Int) = 53)) = jmp n top := rfl
    rw [hb]
    generalize jmp n top = b at *
    have fin : ∀ (S' : List Vl), S'.length ≤ k → Runs code env (if b = true then t else k + 1) S' r → LoopW (fun s : Int × Int × List Vl => ∃ q k : Nat, s.1 = q ∧ s.2.1 = k ∧ k ≤ code.length ∧ q ≤ k ∧ s.2.2.length ≤ k ∧ Runs code env k s.2.2 r) (fun s => (code.length - s.2.1).toNat) ((q : Int), (k : Int), S ++ [top]) (JoinQ (fun j2 : Int × List Vl => (idx j2.2 0).bind fun x17 => some (x17, j2.1, 0)) fun x : Vl × Int × Int => x.1 = r.1 ∧ x.2.2 = r.2) (Sum.inl (((q + 1 : Nat) : Int), ((if b = true then t else k + 1 : Nat) : Int), S')) := by
      intro S' hS hR
      refine ⟨⟨q + 1, if b = true then t else k + 1, rfl, rfl, by split <;> omega, by split <;> omega, by show S'.length ≤ _; split <;> omega, hR⟩, ?_⟩
      simp only; split <;> omega
    refine Wp.ite (fun hp => .some ?_) fun hp => .some ?_
    · have hx : b = false ∨ (n.1 : Int) = 50 := by
        cases b with
        | false => exact .inl rfl
        | true => exact .inr (by simpa using hp)
      have ex : (if b = false ∨ (n.1 : Int) = 50 then S else S ++ [top]) = S := if_pos hx
      rw [ex] at next
      exact Wp.some (fin S (by omega) next)
    · have hx : ¬ (b = false ∨ (n.1 : Int) = 50) := by
        cases b with
        | false => simp at hp
        | true => simpa using hp
      have ex : (if b = false ∨ (n.1 : Int) = 50 then S else S ++ [top]) = S ++ [top] := if_neg hx
      rw [ex] at next
      exact Wp.some (fin (S ++ [top]) (by rw [List.length_append, List.length_singleton]; exact hsk) next)
end L
end Go.Proofs.YtomgmnkalommeaaGreatDoor
