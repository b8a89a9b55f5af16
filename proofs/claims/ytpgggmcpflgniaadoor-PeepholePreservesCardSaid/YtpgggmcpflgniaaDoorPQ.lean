/- Code: verification, for any code that fits depths (plain laws). -/
import Derived.Test.YtpgggmcpflgniaaDoorPT3
namespace Go.Proofs.YtpgggmcpflgniaaDoor
open Go Go.RowKit
set_option maxRecDepth 100000
namespace L

def z3 : Vl := ((0, 0, 0) : Int × Int × Int)
def isLazy (op : Int) : Prop := op = 23 ∨ op = 24 ∨ op = 26
instance (op : Int) : Decidable (isLazy op) := by unfold isLazy; infer_instance
noncomputable def apE (env : rEnv.den) (n : Ty) (args : List Vl) : Vl × Int := (M.eval_Apply big n args env).getD (z3, 0)
theorem ap_eq {env : rEnv.den} (he : EnvOK env) {n : Ty} (hn : WF rNode n) {args : List Vl} (hl : args.length ≤ 100000) : M.eval_Apply big n args env = some (apE env n args) := by
  obtain ⟨r, hr, _⟩ := Apply_wp (n := n) (args := args) he hn hl
  unfold apE
  rw [hr]
  rfl
theorem ap_ok {env : rEnv.den} (he : EnvOK env) {n : Ty} (hn : WF rNode n) {args : List Vl} (hl : args.length ≤ 100000) : ApOK (apE env n args) := by
  obtain ⟨r, hr, h⟩ := Apply_wp (n := n) (args := args) he hn hl
  unfold apE
  rw [hr]
  exact h
theorem wf_mem {e : List Ty} (h : WF (.slice rNode) e) : ∀ n ∈ e, WF rNode n := h.2

theorem isJump_eq (N : Nat) (op : Int) : M.bytecode_isJump N op = some (decide (50 ≤ op ∧ op ≤ 53)) := by
  unfold M.bytecode_isJump
  by_cases h : 50 ≤ op <;> simp [h]
theorem isInstr_eq (N : Nat) (op : Int) : M.bytecode_isInstruction N op = some (decide (¬ isLazy op ∧ (50 ≤ op ∧ op ≤ 53 ∨ 0 ≤ ar op))) := by
  unfold M.bytecode_isInstruction
  rw [or3c, isJump_eq, arity_eq]
  simp only [Option.bind_some]
  unfold isLazy
  by_cases h : op = 23 ∨ op = 24 ∨ op = 26
  · simp [h]
  · by_cases h2 : 50 ≤ op ∧ op ≤ 53
    · simp [h, h2]
    · simp [h, h2]
theorem isCond_eq (N : Nat) (op : Int) : M.vm_isConditional N op = some (decide (op = 50 ∨ op = 52 ∨ op = 53)) := by
  unfold M.vm_isConditional
  by_cases h : op = 50
  · simp [h]
  · by_cases h2 : op = 52
    · simp [h2]
    · simp [h, h2]

def gd (D : List Int) (k : Nat) : Int := D.getD k (-1)
theorem gd_set {D : List Int} {t : Nat} (ht : t < D.length) (d : Int) (k : Nat) : gd (D.set t d) k = if k = t then d else gd D k := by
  unfold gd List.getD
  by_cases h : k = t
  · subst h
    rw [if_pos rfl, List.getElem?_set_self ht]; rfl
  · rw [if_neg h, List.getElem?_set_ne (by omega)]
theorem gd_idx {D : List Int} {t : Nat} (ht : t < D.length) : idx D (t : Int) = some (gd D t) := by
  rw [idx_nat ht]
  simp [gd, List.getD, ht]

def Bd (D : List Int) : Prop := ∀ k, -1 ≤ gd D k ∧ gd D k ≤ 12
structure Mn (D D' : List Int) (i : Nat) : Prop where
  len : D'.length = D.length
  keep : ∀ k, 0 ≤ gd D k → gd D' k = gd D k
  low : ∀ k, k ≤ i → gd D' k = gd D k
theorem Mn.refl (D : List Int) (i : Nat) : Mn D D i := ⟨rfl, fun _ _ => rfl, fun _ _ => rfl⟩
theorem Mn.trans {A B C : List Int} {i : Nat} (h : Mn A B i) (h' : Mn B C i) : Mn A C i :=
  ⟨h'.len.trans h.len, fun k hk => by rw [h'.keep k (by rw [h.keep k hk]; exact hk), h.keep k hk], fun k hk => by rw [h'.low k hk, h.low k hk]⟩

theorem reach_wp {N : Nat} {D : List Int} {t i : Nat} {d : Int} (ht : t < D.length) (hti : i < t) (hd : 0 ≤ d ∧ d ≤ 12) (hB : Bd D) : Wp (M.bytecode_verifier_reach N (t : Int) d D) fun r => (r.1 = 0 → Mn D r.2 i ∧ Bd r.2 ∧ gd r.2 t = d) ∧ (gd D t = -1 → r = (0, D.set t d)) := by
  unfold M.bytecode_verifier_reach
  rw [gd_idx ht]
  simp only [Option.bind_some, ite_some]
  by_cases h0 : 0 ≤ gd D t
  · rw [decide_eq_true h0]
    simp only [if_true]
    by_cases h1 : gd D t = d
    · rw [if_neg (by simp [h1])]
      refine .some ⟨fun _ => ⟨⟨by simp [setL], fun k _ => ?_, fun k hk => ?_⟩, fun k => ?_, ?_⟩, fun h => by omega⟩ <;> simp only [setL, Int.toNat_natCast, gd_set ht]
      · split
        · rename_i h; rw [h, h1]
        · rfl
      · rw [if_neg (by omega)]
      · split
        · omega
        · exact hB k
      · simp
    · rw [if_pos (by simp [h1])]
      exact .some ⟨fun h => by simp at h, fun h => by omega⟩
  · rw [decide_eq_false h0]
    simp only [Bool.false_eq_true, if_false]
    refine .some ⟨fun _ => ⟨⟨by simp [setL], fun k hk => ?_, fun k hk => ?_⟩, fun k => ?_, ?_⟩, fun h => by simp [setL]⟩ <;> simp only [setL, Int.toNat_natCast, gd_set ht]
    · rw [if_neg (fun h => by rw [h] at hk; exact h0 hk)]
    · rw [if_neg (by omega)]
    · split
      · omega
      · exact hB k
    · simp

def StepOK (len : Nat) (D : List Int) (j : Nat) (n : Ty) : Prop :=
  ((n.1 : Int) = 51 ∧ ∃ t : Nat, (n.2 : Int) = t ∧ j < t ∧ t ≤ len ∧ gd D t = gd D j) ∨
  (((n.1 : Int) = 50 ∨ (n.1 : Int) = 52 ∨ (n.1 : Int) = 53) ∧ 1 ≤ gd D j ∧ gd D (j + 1) = gd D j - 1 ∧ ∃ t : Nat, (n.2 : Int) = t ∧ j < t ∧ t ≤ len ∧ gd D t = if (n.1 : Int) = 50 then gd D j - 1 else gd D j) ∨
  ((n.1 : Int) ≠ 51 ∧ ¬ ((n.1 : Int) = 50 ∨ (n.1 : Int) = 52 ∨ (n.1 : Int) = 53) ∧ 0 ≤ ar n.1 ∧ ar n.1 ≤ gd D j ∧ gd D (j + 1) = gd D j - ar n.1 + 1 ∧ gd D j - ar n.1 + 1 ≤ 12)
theorem StepOK.mono {len j i : Nat} {D D' : List Int} {n : Ty} (h : StepOK len D j n) (hj : 0 ≤ gd D j) (m : Mn D D' i) : StepOK len D' j n := by
  have e := m.keep j hj
  rcases h with ⟨h1, t, h2, h3, h4, h5⟩ | ⟨h1, h2, h3, t, h4, h5, h6, h7⟩ | ⟨h1, h2, h3, h4, h5, h6⟩
  · exact .inl ⟨h1, t, h2, h3, h4, by rw [m.keep t (by omega), h5, e]⟩
  · have e1 := m.keep (j + 1) (by omega)
    have e2 := m.keep t (by rw [h7]; split <;> omega)
    exact .inr (.inl ⟨h1, by omega, by omega, t, h4, h5, h6, by rw [e2, e]; exact h7⟩)
  · have e1 := m.keep (j + 1) (by omega)
    exact .inr (.inr ⟨h1, h2, h3, by omega, by omega, by omega⟩)

theorem step_wp {N : Nat} {code : List Ty} {D : List Int} {i : Nat} (hl : code.length ≤ 128) (hi : i < code.length) (hD : D.length = code.length + 1) (hB : Bd D) (h0 : 0 ≤ gd D i) : Wp (M.bytecode_verifier_step N code (i : Int) code[i] D) fun r => r.1 = 0 → Mn D r.2 i ∧ Bd r.2 ∧ StepOK code.length r.2 i code[i] ∧ ¬ isLazy code[i].1 := by
  unfold M.bytecode_verifier_step
  generalize code[i] = n
  obtain ⟨(op : Int), (m : Int)⟩ := n
  dsimp only [rInt, Row.den] at *
  have har := ar_le op
  have hBi := hB i
  rw [isInstr_eq, isJump_eq, gd_idx (by omega), arity_eq, or3c]
  simp only [Option.bind_some, ite_some]
  by_cases c1 : ¬ isLazy op ∧ (50 ≤ op ∧ op ≤ 53 ∨ 0 ≤ ar op)
  case neg =>
    rw [decide_eq_false c1]
    simp only [Bool.not_false, if_true]
    exact .some fun h => by simp at h
  rw [decide_eq_true c1]
  simp only [Bool.not_true, Bool.false_eq_true, if_false]
  by_cases c2 : 50 ≤ op ∧ op ≤ 53
  · rw [decide_eq_true c2]
    simp only [if_true]
    by_cases c3 : m ≤ i ∨ (code.length : Int) < m
    · have : (if decide (m ≤ (i : Int)) = true then true else decide ((code.length : Int) < m)) = true := by
        rcases c3 with c | c <;> simp [c]
      rw [if_pos this]
      exact .some fun h => by simp at h
    have hc : (if decide (m ≤ (i : Int)) = true then true else decide ((code.length : Int) < m)) = false := by
      rw [if_neg (by simp; omega)]; simp; omega
    rw [if_neg (by rw [hc]; simp)]
    obtain ⟨t, rfl⟩ : ∃ t : Nat, m = t := ⟨m.toNat, by omega⟩
    refine Wp.dec (fun c4 => ?_) fun c4 => ?_
    · refine Wp.seq _ (reach_wp (t := t) (i := i) (by omega) (by omega) (by omega) hB) fun r hr => .some fun h => ?_
      obtain ⟨a1, a2, a3⟩ := hr.1 h
      exact ⟨a1, a2, .inl ⟨c4, t, rfl, by omega, by omega, by rw [a3, a1.low i (Nat.le_refl _)]⟩, c1.1⟩
    refine Wp.dec (fun c5 => ?_) fun c5 => by omega
    refine Wp.dec (fun c6 => .some fun h => by simp at h) fun c6 => ?_
    have w1 : IntKind.i64.wrap (gd D i - 1) = gd D i - 1 := wrap_id (by omega) (by omega)
    rw [w1, wrap_succ (by omega)]
    refine Wp.seq _ (reach_wp (t := i + 1) (i := i) (by omega) (by omega) (by omega) hB) fun r hr => ?_
    refine Wp.ndec (fun c7 => .some fun h => absurd h c7) fun c7 => ?_
    obtain ⟨a1, a2, a3⟩ := hr.1 c7
    have hlow := a1.low i (Nat.le_refl _)
    refine Wp.seq _ (reach_wp (D := r.2) (t := t) (i := i) (by rw [a1.len]; omega) (by omega) (by split <;> omega) a2) fun r' hr' => .some fun h => ?_
    obtain ⟨b1, b2, b3⟩ := hr'.1 h
    refine ⟨a1.trans b1, b2, .inr (.inl ⟨c5, ?_, ?_, t, rfl, by omega, by omega, ?_⟩), c1.1⟩
    · rw [b1.low i (Nat.le_refl _)]; show 1 ≤ gd r.2 i; omega
    · show gd r'.2 (i + 1) = gd r'.2 i - 1
      rw [b1.low i (Nat.le_refl _), b1.keep (i + 1) (by omega)]; omega
    · show gd r'.2 t = if op = 50 then gd r'.2 i - 1 else gd r'.2 i
      rw [b1.low i (Nat.le_refl _), b3, hlow]
      by_cases h50 : op = 50 <;> simp [h50]
  · rw [decide_eq_false c2]
    simp only [Bool.false_eq_true, if_false]
    refine Wp.dec (fun c4 => by omega) fun c4 => ?_
    refine Wp.dec (fun c5 => by omega) fun c5 => ?_
    refine Wp.dec (fun c6 => .some fun h => by simp at h) fun c6 => ?_
    have w1 : IntKind.i64.wrap (gd D i - ar op) = gd D i - ar op := wrap_id (by omega) (by omega)
    have w2 : IntKind.i64.wrap (gd D i - ar op + 1) = gd D i - ar op + 1 := wrap_id (by omega) (by omega)
    rw [w1, w2]
    refine Wp.dec (fun c7 => .some fun h => by simp at h) fun c7 => ?_
    rw [wrap_succ (by omega)]
    refine Wp.seq _ (reach_wp (t := i + 1) (i := i) (by omega) (by omega) (by omega) hB) fun r hr => .some fun h => ?_
    obtain ⟨a1, a2, a3⟩ := hr.1 h
    have hlow := a1.low i (Nat.le_refl _)
    exact ⟨a1, a2, .inr (.inr ⟨c4, c5, by show 0 ≤ ar op; omega, by show ar op ≤ gd r.2 i; omega, by show gd r.2 (i + 1) = gd r.2 i - ar op + 1; omega, by show gd r.2 i - ar op + 1 ≤ 12; omega⟩), c1.1⟩

/-- Depths that fit the code where it is reached (-1: it is not). -/
structure Fits (code : List Ty) (F : List Int) : Prop where
  pos : 0 < code.length
  le : code.length ≤ 128
  len : F.length = code.length + 1
  bd : Bd F
  first : gd F 0 = 0
  last : gd F code.length = 1
  step : ∀ j (h : j < code.length), 0 ≤ gd F j → StepOK code.length F j code[j] ∧ ¬ isLazy code[j].1

theorem gd_rep (n k : Nat) : gd (List.replicate n (-1)) k = -1 := by
  unfold gd List.getD
  by_cases h : k < n
  · simp [h]
  · rw [List.getElem?_eq_none (by simp; omega)]; rfl

theorem Verify_fits (code : List Ty) : Wp (M.bytecode_Verify big code) fun y => y.2 = 0 → ∃ F, Fits code F := by
  unfold M.bytecode_Verify
  refine Wp.dec (fun h => .some fun h => by simp at h) fun h1 => ?_
  refine Wp.dec (fun h => .some fun h => by simp at h) fun h2 => ?_
  have hl : code.length ≤ 128 := by omega
  have hp : 0 < code.length := by omega
  rw [wrap_succ (by omega)]
  have hmk : mkL ((code.length + 1 : Nat) : Int) (0 : Int) = some (List.replicate (code.length + 1) 0) := by
    unfold mkL
    rw [if_pos (by omega), Int.toNat_natCast]
  rw [hmk]
  simp only [Option.bind_some]
  refine Wp.seq (· = List.replicate (code.length + 1) (-1 : Int)) ?_ ?_
  · refine Wp.loop (fun s : Int × List Int => ∃ k m : Nat, s = ((k : Int), List.replicate k (-1) ++ List.replicate m 0) ∧ k + m = code.length + 1) (fun s => (code.length + 1 - s.1).toNat) ⟨0, code.length + 1, by simp, by omega⟩ (by unfold big; simp only; omega) ?_
    rintro _ ⟨k, m, rfl, hk⟩
    simp only [List.length_replicate]
    refine Wp.dec (fun h => ?_) fun h => .some ?_
    · obtain ⟨m, rfl⟩ : ∃ m', m = m' + 1 := ⟨m - 1, by omega⟩
      rw [idx_nat (by simp)]
      simp only [Option.bind_some]
      rw [wrap_succ (by omega)]
      refine .some ⟨⟨k + 1, m, ?_, by omega⟩, by simp only; omega⟩
      refine Prod.ext rfl ?_
      simp only [setL, Int.toNat_natCast]
      rw [List.set_append_right _ _ (by simp), List.replicate_succ]
      simp [List.replicate_succ']
    · obtain rfl : m = 0 := by omega
      obtain rfl : k = code.length + 1 := by omega
      show _ = _
      simp
  rintro _ rfl
  have e1 : idx (List.replicate (code.length + 1) (-1 : Int)) 0 = some (-1) := by rw [List.replicate_succ]; rfl
  rw [e1]
  simp only [Option.bind_some]
  have e0 : setL (List.replicate (code.length + 1) (-1 : Int)) (0 : Int) (0 : Int) = (List.replicate (code.length + 1) (-1 : Int)).set 0 0 := rfl
  rw [e0]
  have g0 : ∀ k, gd ((List.replicate (code.length + 1) (-1 : Int)).set 0 0) k = if k = 0 then 0 else -1 := fun k => by
    rw [gd_set (by simp), gd_rep]
  refine Wp.join (Wp.loop (fun s : Int × Int × List Int => ∃ i : Nat, s.2.1 = i ∧ i ≤ code.length ∧ s.2.2.length = code.length + 1 ∧ Bd s.2.2 ∧ gd s.2.2 0 = 0 ∧ ∀ j (h : j < code.length), j < i → 0 ≤ gd s.2.2 j → StepOK code.length s.2.2 j code[j] ∧ ¬ isLazy code[j].1) (fun s => (code.length - s.2.1).toNat) ⟨0, rfl, Nat.zero_le _, by simp, fun k => ?_, ?_, fun j _ h => by omega⟩ (by unfold big; simp only; omega) ?_)
  · simp only [g0]; split <;> omega
  · simp only [g0]; rfl
  rintro ⟨g, at', D⟩ ⟨i, hat, hi, hD, hB, hz, hs⟩
  dsimp only at hat hi hD hB hz hs ⊢
  subst hat
  refine Wp.dec (fun hlt => ?_) fun hge => .some ?_
  · have hlt : i < code.length := by omega
    rw [wrap_succ (by omega), idx_nat hlt, gd_idx (by omega)]
    simp only [Option.bind_some]
    refine Wp.join ?_
    refine Wp.dec (fun hneg => .some ?_) fun hpos => ?_
    · refine Wp.some ?_
      refine ⟨⟨i + 1, rfl, hlt, hD, hB, hz, fun j h hj h0 => hs j h ?_ h0⟩, by simp only; omega⟩
      rcases Nat.lt_or_ge j i with h' | h'
      · exact h'
      · have : j = i := by omega
        subst this
        dsimp only at h0; omega
    · refine Wp.seq _ (step_wp hl hlt hD hB (by omega)) fun r hr => ?_
      refine Wp.ndec (fun hne => .some ?_) fun hok => .some ?_
      · exact (fun h => absurd h hne : r.1 = 0 → ∃ F, Fits code F)
      · obtain ⟨a1, a2, a3, a4⟩ := hr hok
        refine Wp.some ?_
        refine ⟨⟨i + 1, rfl, hlt, by rw [← hD]; exact a1.len, a2, by rw [← hz]; exact a1.low 0 (Nat.zero_le _), fun j h hj h0 => ?_⟩, by simp only; omega⟩
        rcases Nat.lt_or_ge j i with h' | h'
        · have e := a1.low j (by omega)
          have h0' : 0 ≤ gd D j := by rw [← e]; exact h0
          obtain ⟨b1, b2⟩ := hs j h h' h0'
          exact ⟨b1.mono h0' a1, b2⟩
        · have : j = i := by omega
          subst this
          exact ⟨a3, a4⟩
  · obtain rfl : i = code.length := by omega
    show Wp ((idx D (code.length : Int)).bind _) _
    rw [gd_idx (by omega)]
    simp only [Option.bind_some]
    refine Wp.dec (fun h => .some fun h => by simp at h) fun h3 => ?_
    refine Wp.dec (fun h => .some fun h => by simp at h) fun h4 => .some fun _ => ⟨D, hp, hl, hD, hB, hz, by omega, fun j h h0 => hs j h h h0⟩

structure Cs (F D : List Int) : Prop where
  len : D.length = F.length
  ok : ∀ k, gd D k = -1 ∨ gd D k = gd F k
theorem Cs.set {F D : List Int} (c : Cs F D) {t : Nat} (ht : t < F.length) : Cs F (D.set t (gd F t)) := by
  refine ⟨by rw [List.length_set, c.len], fun k => ?_⟩
  rw [gd_set (by rw [c.len]; exact ht)]
  split
  · rename_i h; rw [h]; exact .inr rfl
  · exact c.ok k
theorem reach_c {N : Nat} {F D : List Int} (c : Cs F D) {t : Nat} (ht : t < F.length) : M.bytecode_verifier_reach N (t : Int) (gd F t) D = some (0, D.set t (gd F t)) := by
  have htD : t < D.length := by rw [c.len]; exact ht
  unfold M.bytecode_verifier_reach
  rw [gd_idx htD]
  simp only [Option.bind_some, ite_some]
  rcases c.ok t with h | h
  · rw [h]; rfl
  · rw [h]
    by_cases h0 : 0 ≤ gd F t <;> simp [h0, setL]

theorem step_c {N : Nat} {code : List Ty} {F D : List Int} (f : Fits code F) (c : Cs F D) {i : Nat} (hi : i < code.length) (h0 : gd D i = gd F i) (hp : 0 ≤ gd F i) : Wp (M.bytecode_verifier_step N code (i : Int) code[i] D) fun r => r.1 = 0 ∧ Cs F r.2 ∧ ∃ t, i < t ∧ t ≤ code.length ∧ 0 ≤ gd r.2 t := by
  have hle := f.le
  have hFl := f.len
  have hDl := c.len
  have hb := f.bd i
  have hb1 := f.bd (i + 1)
  obtain ⟨hs, hlz⟩ := f.step i hi hp
  unfold M.bytecode_verifier_step
  generalize code[i] = n at *
  obtain ⟨(op : Int), (m : Int)⟩ := n
  dsimp only [rInt, Row.den] at *
  have har := ar_le op
  rw [isInstr_eq, isJump_eq, gd_idx (by omega), arity_eq, or3c, h0]
  simp only [Option.bind_some]
  have e0 : (50 ≤ op ∧ op ≤ 53 ∨ 0 ≤ ar op) → (50 ≤ op ∧ op ≤ 53 → (i : Int) < m ∧ m ≤ (code.length : Int)) → (if (!decide (¬ isLazy op ∧ (50 ≤ op ∧ op ≤ 53 ∨ 0 ≤ ar op))) = true then some true else (if decide (50 ≤ op ∧ op ≤ 53) = true then (if decide (m ≤ (i : Int)) = true then some true else some (decide ((code.length : Int) < m))) else some false)) = some false := by
    intro g1 g2
    rw [decide_eq_true (show ¬ isLazy op ∧ (50 ≤ op ∧ op ≤ 53 ∨ 0 ≤ ar op) from ⟨hlz, g1⟩), if_neg (by simp)]
    by_cases g : 50 ≤ op ∧ op ≤ 53
    · obtain ⟨g3, g4⟩ := g2 g
      rw [decide_eq_true g, if_pos rfl, decide_eq_false (by omega), if_neg (by simp), decide_eq_false (by omega)]
    · rw [decide_eq_false g, if_neg (by simp)]
  rcases hs with ⟨h1, t, h2, h3, h4, h5⟩ | ⟨h1, h2, h3, t, h4, h5, h6, h7⟩ | ⟨h1, h2, h3, h4, h5, h6⟩
  · dsimp only [rInt, Row.den] at *
    subst h2
    rw [e0 (.inl (by omega)) (fun _ => by omega)]
    simp only [Option.bind_some, Bool.false_eq_true, if_false]
    refine Wp.dec (fun _ => ?_) fun h => absurd h1 h
    rw [← h5, reach_c c (by omega)]
    refine .some ⟨rfl, c.set (by omega), t, h3, h4, ?_⟩
    show 0 ≤ gd (D.set t (gd F t)) t
    rw [gd_set (by omega), if_pos rfl]; omega
  · dsimp only [rInt, Row.den] at *
    subst h4
    rw [e0 (.inl (by omega)) (fun _ => by omega)]
    simp only [Option.bind_some, Bool.false_eq_true, if_false]
    refine Wp.dec (fun h => by omega) fun _ => ?_
    refine Wp.dec (fun _ => ?_) fun h => absurd h1 h
    refine Wp.dec (fun h => by omega) fun _ => ?_
    have w1 : IntKind.i64.wrap (gd F i - 1) = gd F (i + 1) := by rw [wrap_id (by omega) (by omega), h3]
    rw [w1, wrap_succ (by omega), reach_c c (by omega)]
    have c1 := c.set (t := i + 1) (by omega)
    simp only [Option.bind_some]
    refine Wp.ndec (fun h => absurd trivial h) fun _ => ?_
    have e7 : (if decide (op = 50) = true then some (gd F (i + 1)) else some (gd F i)) = some (gd F t) := by
      by_cases h50 : op = 50
      · rw [decide_eq_true h50, if_pos rfl, h7, if_pos h50, h3]
      · rw [decide_eq_false h50, if_neg (by simp), h7, if_neg h50]
    rw [e7]
    simp only [Option.bind_some]
    rw [reach_c c1 (by omega)]
    have c2 := c1.set (t := t) (by omega)
    refine .some ⟨rfl, c2, t, h5, h6, ?_⟩
    show 0 ≤ gd (((D.set (i + 1) (gd F (i + 1)))).set t (gd F t)) t
    rw [gd_set (by rw [List.length_set]; omega), if_pos rfl, h7]
    split <;> omega
  · dsimp only [rInt, Row.den] at *
    have hop : ¬ (50 ≤ op ∧ op ≤ 53) := by
      intro h
      have : op = 50 ∨ op = 51 ∨ op = 52 ∨ op = 53 := by omega
      omega
    rw [e0 (.inr h3) (fun h => absurd h hop)]
    simp only [Option.bind_some, Bool.false_eq_true, if_false]
    refine Wp.dec (fun h => absurd h h1) fun _ => ?_
    refine Wp.dec (fun h => absurd h h2) fun _ => ?_
    refine Wp.dec (fun h => by omega) fun _ => ?_
    have w1 : IntKind.i64.wrap (gd F i - ar op) = gd F i - ar op := wrap_id (by omega) (by omega)
    have w2 : IntKind.i64.wrap (gd F i - ar op + 1) = gd F (i + 1) := by rw [wrap_id (by omega) (by omega), h5]
    rw [w1, w2]
    refine Wp.dec (fun h => by omega) fun _ => ?_
    rw [wrap_succ (by omega), reach_c c (by omega)]
    refine .some ⟨rfl, c.set (by omega), i + 1, by omega, by omega, ?_⟩
    show 0 ≤ gd (D.set (i + 1) (gd F (i + 1))) (i + 1)
    rw [gd_set (by omega), if_pos rfl]; omega

theorem Fits.verify {code : List Ty} {F : List Int} (f : Fits code F) : Wp (M.bytecode_Verify big code) fun y => y.2 = 0 := by
  have hl := f.le
  have hp := f.pos
  have hFl := f.len
  unfold M.bytecode_Verify
  refine Wp.dec (fun h => by omega) fun h1 => ?_
  refine Wp.dec (fun h => by omega) fun h2 => ?_
  rw [wrap_succ (by omega)]
  have hmk : mkL ((code.length + 1 : Nat) : Int) (0 : Int) = some (List.replicate (code.length + 1) 0) := by
    unfold mkL
    rw [if_pos (by omega), Int.toNat_natCast]
  rw [hmk]
  simp only [Option.bind_some]
  refine Wp.seq (· = List.replicate (code.length + 1) (-1 : Int)) ?_ ?_
  · refine Wp.loop (fun s : Int × List Int => ∃ k m : Nat, s = ((k : Int), List.replicate k (-1) ++ List.replicate m 0) ∧ k + m = code.length + 1) (fun s => (code.length + 1 - s.1).toNat) ⟨0, code.length + 1, by simp, by omega⟩ (by unfold big; simp only; omega) ?_
    rintro _ ⟨k, m, rfl, hk⟩
    simp only [List.length_replicate]
    refine Wp.dec (fun h => ?_) fun h => .some ?_
    · obtain ⟨m, rfl⟩ : ∃ m', m = m' + 1 := ⟨m - 1, by omega⟩
      rw [idx_nat (by simp)]
      simp only [Option.bind_some]
      rw [wrap_succ (by omega)]
      refine .some ⟨⟨k + 1, m, ?_, by omega⟩, by simp only; omega⟩
      refine Prod.ext rfl ?_
      simp only [setL, Int.toNat_natCast]
      rw [List.set_append_right _ _ (by simp), List.replicate_succ]
      simp [List.replicate_succ']
    · obtain rfl : m = 0 := by omega
      obtain rfl : k = code.length + 1 := by omega
      show _ = _
      simp
  rintro _ rfl
  have e1 : idx (List.replicate (code.length + 1) (-1 : Int)) 0 = some (-1) := by rw [List.replicate_succ]; rfl
  rw [e1]
  simp only [Option.bind_some]
  have e0 : setL (List.replicate (code.length + 1) (-1 : Int)) (0 : Int) (0 : Int) = (List.replicate (code.length + 1) (-1 : Int)).set 0 0 := rfl
  rw [e0]
  have g0 : ∀ k, gd ((List.replicate (code.length + 1) (-1 : Int)).set 0 0) k = if k = 0 then 0 else -1 := fun k => by
    rw [gd_set (by simp), gd_rep]
  refine Wp.join (Wp.loop (fun s : Int × Int × List Int => ∃ i : Nat, s.2.1 = i ∧ i ≤ code.length ∧ Cs F s.2.2 ∧ ∃ k, i ≤ k ∧ k ≤ code.length ∧ 0 ≤ gd s.2.2 k) (fun s => (code.length - s.2.1).toNat) ⟨0, rfl, Nat.zero_le _, ⟨by simp [hFl], fun k => ?_⟩, 0, Nat.le_refl _, Nat.zero_le _, ?_⟩ (by unfold big; simp only; omega) ?_)
  · simp only [g0]; split
    · rename_i h; rw [h, f.first]; exact .inr rfl
    · exact .inl rfl
  · simp only [g0]; decide
  rintro ⟨g, at', D⟩ ⟨i, hat, hi, hc, k, hk1, hk2, hk3⟩
  dsimp only at hat hi hc hk3 ⊢
  subst hat
  have hDl := hc.len
  refine Wp.dec (fun hlt => ?_) fun hge => .some ?_
  · have hlt : i < code.length := by omega
    rw [wrap_succ (by omega), idx_nat hlt, gd_idx (by omega)]
    simp only [Option.bind_some]
    refine Wp.join ?_
    refine Wp.dec (fun hneg => .some ?_) fun hpos => ?_
    · refine Wp.some ⟨⟨i + 1, rfl, hlt, hc, k, ?_, hk2, hk3⟩, by simp only; omega⟩
      by_cases e : k = i
      · subst e; omega
      · omega
    have hgi : gd D i = gd F i := (hc.ok i).resolve_left (by omega)
    refine Wp.seq _ (step_c f hc hlt hgi (by omega)) fun r hr => ?_
    obtain ⟨r1, r2, t, r3, r4, r5⟩ := hr
    refine Wp.ndec (fun h => absurd r1 h) fun _ => .some ?_
    exact Wp.some ⟨⟨i + 1, rfl, hlt, r2, t, r3, r4, r5⟩, by simp only; omega⟩
  · obtain rfl : i = code.length := by omega
    show Wp ((idx D (code.length : Int)).bind _) _
    obtain rfl : k = code.length := by omega
    rw [gd_idx (by omega), (hc.ok _).resolve_left (by omega), f.last]
    exact .some rfl

end L
end Go.Proofs.YtpgggmcpflgniaaDoor
