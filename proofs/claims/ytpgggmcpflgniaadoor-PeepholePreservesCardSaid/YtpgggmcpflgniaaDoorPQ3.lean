/- Code that is turned into other code: what keeps its runs and its depths (plain laws). -/
import Derived.Test.YtpgggmcpflgniaaDoorPQ2
namespace Go.Proofs.YtpgggmcpflgniaaDoor
open Go Go.RowKit
set_option maxRecDepth 100000
namespace L

theorem nat_eq {u t : Nat} {x : Int} (h1 : x = u) (h2 : x = t) : u = t := by omega

def jop (n : Ty) : Prop := 50 ≤ (n.1 : Int) ∧ (n.1 : Int) ≤ 53
instance (n : Ty) : Decidable (jop n) := by unfold jop; infer_instance
def cop (n : Ty) : Prop := (n.1 : Int) = 50 ∨ (n.1 : Int) = 52 ∨ (n.1 : Int) = 53
theorem cop.jop {n : Ty} (h : cop n) : jop n := by
  obtain ⟨(o : Int), (m : Int)⟩ := n
  unfold cop at h; unfold L.jop
  dsimp only [rInt, Row.den] at *
  omega
theorem jop51 {n : Ty} (h : (n.1 : Int) = 51) : jop n := by
  obtain ⟨(o : Int), (m : Int)⟩ := n
  unfold jop
  dsimp only [rInt, Row.den] at *
  omega
theorem jop_cases {n : Ty} (h : jop n) : (n.1 : Int) = 51 ∨ cop n := by
  obtain ⟨(o : Int), (m : Int)⟩ := n
  unfold jop at h; unfold cop
  dsimp only [rInt, Row.den] at *
  omega
theorem cop_ne {n : Ty} (h : cop n) : ¬ (n.1 : Int) = 51 := by
  obtain ⟨(o : Int), (m : Int)⟩ := n
  unfold cop at h
  dsimp only [rInt, Row.den] at *
  omega
theorem jop_lazy {n : Ty} (h : jop n) : ¬ isLazy n.1 := by
  obtain ⟨(o : Int), (m : Int)⟩ := n
  unfold jop at h; unfold isLazy
  dsimp only [rInt, Row.den] at *
  omega

section
variable {a b : List Ty} {env : rEnv.den} {p : Nat} {S : List Vl} {r : Vl × Int} {n : Ty}

theorem Runs.at_end (hr : Runs a env p S r) (hp : p = a.length) : ∃ v S', S = v :: S' ∧ r = (v, 0) := by
  have no : ∀ {n : Ty}, a[p]? = some n → False := fun {n} h => by subst hp; simp at h
  cases hr with
  | done => exact ⟨_, _, rfl, rfl⟩
  | jump h => exact (no h).elim
  | op h => exact (no h).elim
  | fail h => exact (no h).elim
  | cond h => exact (no h).elim
  | cbad h => exact (no h).elim
theorem Runs.at_op (hr : Runs a env p S r) (hn : a[p]? = some n) (hj : ¬ jop n) : ∃ k : Nat, ar n.1 = k ∧ k ≤ S.length ∧
    (((apE env n (S.drop (S.length - k))).2 = 0 ∧ Runs a env (p + 1) (S.take (S.length - k) ++ [(apE env n (S.drop (S.length - k))).1]) r) ∨ ((apE env n (S.drop (S.length - k))).2 ≠ 0 ∧ r = (z3, (apE env n (S.drop (S.length - k))).2))) := by
  cases hr with
  | done => simp at hn
  | jump h h51 => obtain rfl := Option.some.inj (h.symm.trans hn); exact absurd (jop51 h51) hj
  | op h hne ha hs h0 next => obtain rfl := Option.some.inj (h.symm.trans hn); exact ⟨_, ha, hs, .inl ⟨h0, next⟩⟩
  | fail h hne ha hs h0 => obtain rfl := Option.some.inj (h.symm.trans hn); exact ⟨_, ha, hs, .inr ⟨h0, rfl⟩⟩
  | cond h hop => obtain rfl := Option.some.inj (h.symm.trans hn); exact absurd (cop.jop hop) hj
  | cbad h hop => obtain rfl := Option.some.inj (h.symm.trans hn); exact absurd (cop.jop hop) hj
theorem Runs.at_jump (hr : Runs a env p S r) (hn : a[p]? = some n) (h51 : (n.1 : Int) = 51) : ∃ t : Nat, (n.2 : Int) = t ∧ p < t ∧ t ≤ a.length ∧ Runs a env t S r := by
  cases hr with
  | done => simp at hn
  | jump h _ ht hpt htl next => obtain rfl := Option.some.inj (h.symm.trans hn); exact ⟨_, ht, hpt, htl, next⟩
  | op h hne => obtain rfl := Option.some.inj (h.symm.trans hn); exact absurd (jop51 h51) hne
  | fail h hne => obtain rfl := Option.some.inj (h.symm.trans hn); exact absurd (jop51 h51) hne
  | cond h hop => obtain rfl := Option.some.inj (h.symm.trans hn); exact absurd h51 (cop_ne hop)
  | cbad h hop => obtain rfl := Option.some.inj (h.symm.trans hn); exact absurd h51 (cop_ne hop)
def good (top : Vl) : Prop := (top.1 : Int) = 1 ∧ ((top.2.2 : Int) = 0 ∨ (top.2.2 : Int) = 1)
theorem Runs.at_cond (hr : Runs a env p S r) (hn : a[p]? = some n) (hc : cop n) : ∃ S' top, S = S' ++ [top] ∧ ((¬ good top ∧ r = (z3, 8)) ∨
    (good top ∧ ∃ t : Nat, (n.2 : Int) = t ∧ p < t ∧ t ≤ a.length ∧ Runs a env (if jmp n top = true then t else p + 1) (if jmp n top = false ∨ (n.1 : Int) = 50 then S' else S' ++ [top]) r)) := by
  cases hr with
  | done => simp at hn
  | jump h h51 => obtain rfl := Option.some.inj (h.symm.trans hn); exact absurd h51 (cop_ne hc)
  | op h hne => obtain rfl := Option.some.inj (h.symm.trans hn); exact absurd (cop.jop hc) hne
  | fail h hne => obtain rfl := Option.some.inj (h.symm.trans hn); exact absurd (cop.jop hc) hne
  | cond h hop ht hpt htl hk hv next => obtain rfl := Option.some.inj (h.symm.trans hn); exact ⟨_, _, rfl, .inr ⟨⟨hk, hv⟩, _, ht, hpt, htl, next⟩⟩
  | cbad h hop hk => obtain rfl := Option.some.inj (h.symm.trans hn); exact ⟨_, _, rfl, .inl ⟨hk, rfl⟩⟩

/-- An instruction that pushes a value. -/
theorem Runs.lit {v : Vl} (hr : Runs a env p S r) (hn : a[p]? = some n) (hj : ¬ jop n) (h0 : ar n.1 = 0) (hv : apE env n [] = (v, 0)) : Runs a env (p + 1) (S ++ [v]) r := by
  obtain ⟨k, h1, h2, h3⟩ := hr.at_op hn hj
  obtain rfl : k = 0 := by omega
  rw [Nat.sub_zero, List.drop_length, List.take_length, hv] at h3
  rcases h3 with h3 | h3
  · exact h3.2
  · exact absurd rfl h3.1
theorem Runs.opI {vs : List Vl} {v : Vl} (hr : Runs a env p (S ++ vs) r) (hn : a[p]? = some n) (hj : ¬ jop n) (h0 : ar n.1 = (vs.length : Int)) (hv : apE env n vs = (v, 0)) : Runs a env (p + 1) (S ++ [v]) r := by
  obtain ⟨k, h1, h2, h3⟩ := hr.at_op hn hj
  obtain rfl : k = vs.length := by omega
  rw [List.length_append, Nat.add_sub_cancel, List.drop_left, List.take_left, hv] at h3
  rcases h3 with h3 | h3
  · exact h3.2
  · exact absurd rfl h3.1
end

/-- A step of the one code and the step of the other that answers it. -/
inductive Go1 (a b : List Ty) (R : Nat → Nat → Prop) (p q : Nat) : Prop
  | op {n : Ty} (ha : a[p]? = some n) (hb : b[q]? = some n) (hn : ¬ jop n) (hr : R (p + 1) (q + 1)) : Go1 a b R p q
  | jump {n n' : Ty} {t t' : Nat} (ha : a[p]? = some n) (hb : b[q]? = some n') (h1 : (n.1 : Int) = 51) (h2 : (n'.1 : Int) = 51) (e1 : (n.2 : Int) = t) (e2 : (n'.2 : Int) = t') (hq : q < t') (hr : R t t') : Go1 a b R p q
  | cond {n n' : Ty} {t t' : Nat} (ha : a[p]? = some n) (hb : b[q]? = some n') (h1 : cop n) (h2 : (n'.1 : Int) = n.1) (e1 : (n.2 : Int) = t) (e2 : (n'.2 : Int) = t') (hq : q < t') (hr : R t t') (hs : R (p + 1) (q + 1)) : Go1 a b R p q
  | block {k : Nat} {n m : Ty} {vs : List Vl} {v : Vl} (hl : ∀ j, j < k → ∃ x y, a[p + j]? = some x ∧ vs[j]? = some y ∧ ¬ jop x ∧ ar x.1 = 0 ∧ ∀ env, EnvOK env → apE env x [] = (y, 0)) (hk : vs.length = k) (hn : a[p + k]? = some n) (hj : ¬ jop n) (ha : ar n.1 = k)
      (hv : ∀ env, EnvOK env → apE env n vs = (v, 0)) (hm : b[q]? = some m) (hjm : ¬ jop m) (ham : ar m.1 = 0) (hlz : ¬ isLazy m.1) (hvm : ∀ env, EnvOK env → apE env m [] = (v, 0)) (hr : R (p + k + 1) (q + 1)) : Go1 a b R p q

structure Sim (a b : List Ty) (F F' : List Int) (R : Nat → Nat → Prop) : Prop where
  fits : Fits a F
  pos : 0 < b.length
  le : b.length ≤ 128
  len : F'.length = b.length + 1
  bd : Bd F'
  dep : ∀ p q, R p q → 0 ≤ gd F p ∧ p ≤ a.length ∧ q ≤ b.length ∧ gd F' q = gd F p
  st : ∀ p q, R p q → (p = a.length ∧ q = b.length) ∨ Go1 a b R p q ∨ ∃ (n : Ty) (t : Nat), a[p]? = some n ∧ (n.1 : Int) = 51 ∧ (n.2 : Int) = t ∧ R t q
  back : ∀ q, q < b.length → 0 ≤ gd F' q → ∃ p, R p q ∧ Go1 a b R p q
  zero : R 0 0
  fin : R a.length b.length

section
variable {a b : List Ty} {F F' : List Int} {R : Nat → Nat → Prop}

theorem Fits.at (f : Fits a F) {p : Nat} {n : Ty} (hn : a[p]? = some n) (h0 : 0 ≤ gd F p) : StepOK a.length F p n ∧ ¬ isLazy n.1 := by
  obtain ⟨h, rfl⟩ := List.getElem?_eq_some_iff.1 hn
  exact f.step p h h0
theorem Fits.op (f : Fits a F) {p : Nat} {n : Ty} (hn : a[p]? = some n) (hj : ¬ jop n) (h0 : 0 ≤ gd F p) : 0 ≤ ar n.1 ∧ ar n.1 ≤ gd F p ∧ gd F (p + 1) = gd F p - ar n.1 + 1 ∧ gd F p - ar n.1 + 1 ≤ 12 ∧ ¬ isLazy n.1 := by
  obtain ⟨h1, h2⟩ := f.at hn h0
  rcases h1 with ⟨h, _⟩ | ⟨h, _⟩ | ⟨_, _, g1, g2, g3, g4⟩
  · exact absurd (jop51 h) hj
  · exact absurd (cop.jop h) hj
  · exact ⟨g1, g2, g3, g4, h2⟩

theorem lits_depth (f : Fits a F) {p : Nat} (h0 : 0 ≤ gd F p) : ∀ (k : Nat), (∀ j, j < k → ∃ x : Ty, a[p + j]? = some x ∧ ¬ jop x ∧ ar x.1 = 0) → gd F (p + k) = gd F p + k
  | 0, _ => by simp
  | k + 1, h => by
    have ih := lits_depth f h0 k fun j hj => h j (by omega)
    obtain ⟨x, h1, h2, h3⟩ := h k (by omega)
    obtain ⟨_, _, g, _⟩ := f.op h1 h2 (by omega)
    rw [← Nat.add_assoc, g]
    omega

theorem Sim.to (s : Sim a b F F' R) : Fits b F' := by
  refine ⟨s.pos, s.le, s.len, s.bd, ?_, ?_, fun q hq h0 => ?_⟩
  · rw [(s.dep _ _ s.zero).2.2.2]; exact s.fits.first
  · rw [(s.dep _ _ s.fin).2.2.2]; exact s.fits.last
  obtain ⟨p, hR, g⟩ := s.back q hq h0
  obtain ⟨d1, d2, d3, d4⟩ := s.dep p q hR
  cases g with
  | @op n ha hb hn hr =>
    have e : b[q] = n := (List.getElem?_eq_some_iff.1 hb).2
    obtain ⟨g1, g2, g3, g4, g5⟩ := s.fits.op ha hn d1
    obtain ⟨_, _, _, d5⟩ := s.dep _ _ hr
    rw [e]
    exact ⟨.inr (.inr ⟨fun h => hn (jop51 h), fun h => hn (cop.jop h), g1, by omega, by omega, by omega⟩), g5⟩
  | @jump n n' t t' ha hb h1 h2 e1 e2 hq' hr =>
    have e : b[q] = n' := (List.getElem?_eq_some_iff.1 hb).2
    obtain ⟨g1, _⟩ := s.fits.at ha d1
    obtain ⟨_, _, c3, d5⟩ := s.dep _ _ hr
    rw [e]
    refine ⟨.inl ⟨h2, t', e2, hq', c3, ?_⟩, jop_lazy (jop51 h2)⟩
    rcases g1 with ⟨_, u, u1, u2, u3, u4⟩ | ⟨h, _⟩ | ⟨h, _⟩
    · have : u = t := nat_eq u1 e1
      subst this
      omega
    · exact absurd h1 (cop_ne h)
    · exact absurd h1 h
  | @cond n n' t t' ha hb h1 h2 e1 e2 hq' hr hs =>
    have e : b[q] = n' := (List.getElem?_eq_some_iff.1 hb).2
    obtain ⟨g1, _⟩ := s.fits.at ha d1
    obtain ⟨_, _, c3, d5⟩ := s.dep _ _ hr
    obtain ⟨_, _, _, d6⟩ := s.dep _ _ hs
    have h1' : cop n' := by unfold cop; rw [h2]; exact h1
    rw [e]
    refine ⟨.inr (.inl ⟨h1', ?_⟩), jop_lazy h1'.jop⟩
    rcases g1 with ⟨h, _⟩ | ⟨_, g2, g3, u, u1, u2, u3, u4⟩ | ⟨_, h, _⟩
    · exact absurd h (cop_ne h1)
    · have : u = t := nat_eq u1 e1
      subst this
      refine ⟨by omega, by omega, t', e2, hq', c3, ?_⟩
      rw [d5, u4, d4, h2]
    · exact absurd h1 h
  | @block k n m vs v hl hk hn hj ha hv hm hjm ham hlz hvm hr =>
    have e : b[q] = m := (List.getElem?_eq_some_iff.1 hm).2
    have hd := lits_depth s.fits d1 k fun j hj => by
      obtain ⟨x, _, x1, _, x2, x3, _⟩ := hl j hj
      exact ⟨x, x1, x2, x3⟩
    obtain ⟨g1, g2, g3, g4, _⟩ := s.fits.op hn hj (by omega)
    obtain ⟨_, _, _, d5⟩ := s.dep _ _ hr
    rw [e]
    exact ⟨.inr (.inr ⟨fun h => hjm (jop51 h), fun h => hjm (cop.jop h), by omega, by omega, by omega, by omega⟩), hlz⟩

theorem Runs.lits {env : rEnv.den} {p : Nat} {S : List Vl} {r : Vl × Int} {vs : List Vl} : ∀ (k : Nat), k ≤ vs.length → (∀ j, j < k → ∃ (x : Ty) (y : Vl), a[p + j]? = some x ∧ vs[j]? = some y ∧ ¬ jop x ∧ ar x.1 = 0 ∧ apE env x [] = (y, 0)) → Runs a env p S r → Runs a env (p + k) (S ++ vs.take k) r
  | 0, _, _, h => by simpa using h
  | k + 1, hk, hl, h => by
    have ih := Runs.lits k (by omega) (fun j hj => hl j (by omega)) h
    obtain ⟨x, y, h1, h2, h3, h4, h5⟩ := hl k (by omega)
    have := ih.lit h1 h3 h4 h5
    have e : vs.take (k + 1) = vs.take k ++ [y] := by
      obtain ⟨hlt, rfl⟩ := List.getElem?_eq_some_iff.1 h2
      exact List.take_succ_eq_append_getElem hlt
    rw [e, ← List.append_assoc]
    exact this

theorem Sim.runs (s : Sim a b F F' R) {env : rEnv.den} (he : EnvOK env) {r : Vl × Int} : ∀ (m p q : Nat) (S : List Vl), a.length - p = m → R p q → Runs a env p S r → Runs b env q S r := by
  intro m
  induction m using Nat.strongRecOn with
  | _ m ih =>
    intro p q S hm hR hr
    have ih' : ∀ p' q' S', p < p' → R p' q' → Runs a env p' S' r → Runs b env q' S' r := fun p' q' S' h hR' => by
      have := (s.dep p' q' hR').2.1
      exact ih (a.length - p') (by omega) p' q' S' rfl hR'
    rcases s.st p q hR with ⟨e1, e2⟩ | g | ⟨n, t, ha, h51, ht, hR'⟩
    · obtain ⟨v, S', rfl, rfl⟩ := hr.at_end e1
      rw [e2]
      exact .done
    · cases g with
      | @op n ha hb hn hr' =>
        obtain ⟨k, h1, h2, h3⟩ := hr.at_op ha hn
        rcases h3 with ⟨h3, h4⟩ | ⟨h3, rfl⟩
        · exact .op hb hn h1 h2 h3 (ih' _ _ _ (by omega) hr' h4)
        · exact .fail hb hn h1 h2 h3
      | @jump n n' t t' ha hb h1 h2 e1 e2 hq' hr' =>
        obtain ⟨u, u1, u2, u3, u4⟩ := hr.at_jump ha h1
        have : u = t := nat_eq u1 e1
        subst this
        exact .jump hb h2 e2 hq' (s.dep _ _ hr').2.2.1 (ih' _ _ _ u2 hr' u4)
      | @cond n n' t t' ha hb h1 h2 e1 e2 hq' hr' hs =>
        have h1' : cop n' := by unfold cop; rw [h2]; exact h1
        obtain ⟨S', top, rfl, h3⟩ := hr.at_cond ha h1
        rcases h3 with ⟨h3, rfl⟩ | ⟨h3, u, u1, u2, u3, u4⟩
        · exact .cbad hb h1' h3
        · have : u = t := nat_eq u1 e1
          subst this
          have ej : jmp n' top = jmp n top := by unfold jmp; rw [h2]
          refine .cond hb h1' e2 hq' (s.dep _ _ hr').2.2.1 h3.1 h3.2 ?_
          rw [ej, h2]
          by_cases hj : jmp n top = true
          · rw [if_pos hj] at u4 ⊢
            exact ih' _ _ _ u2 hr' u4
          · rw [if_neg hj] at u4 ⊢
            exact ih' _ _ _ (by omega) hs u4
      | @block k n m vs v hl hk hn hj ha hv hm hjm ham hlz hvm hr' =>
        have h1 := Runs.lits (vs := vs) k (by omega) (fun j hj => by
          obtain ⟨x, y, x1, x2, x3, x4, x5⟩ := hl j hj
          exact ⟨x, y, x1, x2, x3, x4, x5 env he⟩) hr
        rw [List.take_of_length_le (by omega)] at h1
        have h2 := h1.opI hn hj (by rw [ha, hk]) (hv env he)
        have h3 := ih' _ _ _ (by omega) hr' h2
        have e := hvm env he
        refine .op (a := 0) hm hjm (by rw [ham]; rfl) (Nat.zero_le _) ?_ ?_
        · rw [Nat.sub_zero, List.drop_length, e]
        · rw [Nat.sub_zero, List.drop_length, List.take_length, e]
          exact h3
    · obtain ⟨u, u1, u2, u3, u4⟩ := hr.at_jump ha h51
      have : u = t := nat_eq u1 ht
      subst this
      exact ih' _ _ _ u2 hR' u4
end

/-- Code that answers as other code does. -/
structure Same (a b : List Ty) : Prop where
  fits : ∃ F, Fits b F
  le : b.length ≤ a.length
  wf : ∀ n ∈ b, WF rNode n
  runs : ∀ env, EnvOK env → ∀ r, Runs a env 0 [] r → Runs b env 0 [] r
theorem Same.trans {a b c : List Ty} (h : Same a b) (k : Same b c) : Same a c := ⟨k.fits, Nat.le_trans k.le h.le, k.wf, fun env he r hr => k.runs env he r (h.runs env he r hr)⟩
theorem Sim.same {a b : List Ty} {F F' : List Int} {R : Nat → Nat → Prop} (s : Sim a b F F' R) (hl : b.length ≤ a.length) (hw : ∀ n ∈ b, WF rNode n) : Same a b :=
  ⟨⟨F', s.to⟩, hl, hw, fun _ he _ hr => s.runs he _ 0 0 [] rfl s.zero hr⟩
end L
end Go.Proofs.YtpgggmcpflgniaaDoor
