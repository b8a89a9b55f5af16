/- Compiled code runs as its expression evaluates (plain laws). -/
import Derived.Test.YtomgmnkalommeaaGreatDoorPM5
import Derived.Test.YtomgmnkalommeaaGreatDoorPM
import Derived.Test.YtomgmnkalommeaaGreatDoorPY6
import Derived.Test.YtomgmnkalommeaaGreatDoorOpen
namespace Go.Proofs.YtomgmnkalommeaaGreatDoor
open Go Go.RowKit
set_option maxRecDepth 100000
namespace L

/-- A piece of code at b that computes q and leaves it on the stack. -/
def Cmp (code : List Ty) (env : rEnv.den) (b b' : Nat) (q : Vl × Int) : Prop := ∀ S : List Vl, (q.2 = 0 → ∀ r, Runs code env b' (S ++ [q.1]) r → Runs code env b S r) ∧ (q.2 ≠ 0 → Runs code env b S (z3, q.2))

theorem cgL_runs {code : List Ty} {F : List Int} {env : rEnv.den} {g : Nat → Nat → Int → List (Ty × Int)} {v : Nat → Vl × Int} : ∀ (os : List Nat) (b : Nat) (d : Int), (∀ o ∈ os, ∀ (b : Nat) (d : Int), At code F b (g o b d) → b + (g o b d).length ≤ code.length → Cmp code env b (b + (g o b d).length) (v o)) → At code F b (cgL g os b d) → b + (cgL g os b d).length ≤ code.length → ∀ S : List Vl, (∀ vs, argsE v os = .inl vs → ∀ r, Runs code env (b + (cgL g os b d).length) (S ++ vs) r → Runs code env b S r) ∧ (∀ c, argsE v os = .inr c → Runs code env b S (z3, c))
  | [], b, d, _, _, _, S => by
    refine ⟨fun vs h r hr => ?_, fun c h => by cases h⟩
    cases h
    simpa [cgL] using hr
  | o :: os, b, d, hg, hA, hl, S => by
    rw [cgL] at hA hl ⊢
    rw [List.length_append] at hl ⊢
    obtain ⟨h1, h2⟩ := hg o (List.mem_cons_self ..) b d hA.left (by omega) S
    have ih := cgL_runs (v := v) (env := env) os (b + (g o b d).length) (d + 1) (fun o ho => hg o (List.mem_cons_of_mem _ ho)) hA.right (by omega)
    rw [argsE]
    by_cases h0 : (v o).2 = 0
    · rw [if_pos h0]
      obtain ⟨i1, i2⟩ := ih (S ++ [(v o).1])
      cases hq : argsE v os with
      | inl vs =>
        refine ⟨fun ws hw r hr => ?_, fun c hc => by cases hc⟩
        cases hw
        refine h1 h0 r (i1 vs hq r ?_)
        rw [List.append_assoc, List.singleton_append, Nat.add_assoc]
        exact hr
      | inr c =>
        refine ⟨fun ws hw => (by cases hw), fun c' hc => ?_⟩
        cases hc
        exact h1 h0 _ (i2 c hq)
    · rw [if_neg h0]
      refine ⟨fun ws hw => (by cases hw), fun c hc => ?_⟩
      cases hc
      exact h2 h0

theorem jmp_eq {op : Int} {E : Int} {top : Vl} (ho : op = 23 ∨ op = 24) (hv : (top.2.2 : Int) = 0 ∨ (top.2.2 : Int) = 1) : jmp ((if op = 24 then 53 else 52, E) : Int × Int) top = true ↔ ((op = 23) = ((top.2.2 : Int) = 0)) := by
  unfold jmp
  rcases ho with rfl | rfl <;> rcases hv with h | h <;> rw [h] <;> simp
theorem bool01 {v : Vl} {a : Ty} (h : HasT v a) (ha : (a.1 : Int) = 1) : (v.1 : Int) = 1 ∧ ((v.2.2 : Int) = 0 ∨ (v.2.2 : Int) = 1) := by
  obtain ⟨(k : Int), (e : Int), (n : Int)⟩ := v
  obtain ⟨(p : Int), (q : Int)⟩ := a
  obtain ⟨h1, h2, h3⟩ := h
  dsimp only [rInt, Row.den] at *
  unfold Plaus at h1
  omega
theorem lazy_nt {op m : Int} {ts : List Ty} {s : Sg} {t : Ty} (hz : isLazy op) (hnt : NT op m ts s t) : RT op ts t := by
  unfold isLazy at hz
  rcases hnt with ⟨ho, _⟩ | ⟨ho, _⟩ | ⟨ho, _⟩ | ⟨ho, _⟩ | ⟨ho, _⟩ | ⟨ho, _⟩ | ⟨ho, _⟩ | ⟨ho, _⟩ | ⟨_, hR⟩
  case inr.inr.inr.inr.inr.inr.inr.inr => exact hR
  all_goals omega

theorem cg_runs {code : List Ty} {F : List Int} {e : List Ty} {st : List Nat} {s : Sg} {ty : Nat → Ty} {env : rEnv.den} (w : Whole e st) (he : EnvOK env) (ag : Agr s env) (hty : ∀ i, Typ e st s ty i) : ∀ (f i b : Nat) (d : Int), i < f → i < e.length → At code F b (cg e st f i b d) → b + (cg e st f i b d).length ≤ code.length → Cmp code env b (b + (cg e st f i b d).length) (nodeE (apE env) e st f i)
  | 0, _, _, _, h, _, _, _ => by omega
  | f + 1, i, b, d, hf, hi, hA, hl => by
    have ih := cg_runs (code := code) (F := F) w he ag hty f
    have hsound := node_sound w he ag hty f
    have hlt := opsL_lt w.val hi
    obtain ⟨hus, hnt⟩ := hty i hi
    obtain ⟨v1, _⟩ := w.val.node i hi
    have hge : e.getD i ((0, 0) : Int × Int) = e[i] := by simp only [List.getD, List.getElem?_eq_getElem hi, Option.getD_some]
    have hlen := opsL_len st (ar e[i].1).toNat i
    rw [nodeE, hge]
    rw [cg, hge] at hA hl ⊢
    generalize opsL st (ar e[i].1).toNat i = os at *
    by_cases hz : isLazy e[i].1
    · rw [if_pos hz]
      have hR := lazy_nt hz hnt
      have hm0 : (e[i].2 : Int) = 0 := hus.resolve_right (by
        unfold isLazy at hz
        unfold us
        rcases hz with h | h | h <;> rw [h] <;> decide)
      have hs0 : ∀ o ∈ os, TyOK (ty o) (nodeE (apE env) e st f o) := fun o ho => hsound o (by have := hlt o ho; omega) (by have := hlt o ho; omega)
      have ihs : ∀ o ∈ os, ∀ (b : Nat) (d : Int), At code F b (cg e st f o b d) → b + (cg e st f o b d).length ≤ code.length → Cmp code env b (b + (cg e st f o b d).length) (nodeE (apE env) e st f o) := fun o ho b d hA' hl' => ih o b d (by have := hlt o ho; omega) (by have := hlt o ho; omega) hA' hl'
      unfold lazyE
      generalize nodeE (apE env) e st f = g at *
      rcases lazy_rt hz hR with ⟨ho, a, b', hts, ha, hb, ht⟩ | ⟨ho, a, b', hts, ha, ht⟩
      · obtain ⟨o0, o1, rfl⟩ := len2 (l := os) (by rw [← List.length_map (f := ty), hts]; rfl)
        simp only [List.map_cons, List.map_nil, List.cons.injEq, and_true] at hts
        have t0 := hs0 o0 (by simp)
        have t1 := hs0 o1 (by simp)
        rw [hts.1] at t0
        rw [hts.2] at t1
        rw [if_pos ho] at hA hl ⊢
        rw [if_neg (fun h => h hm0)]
        unfold cgAnd at hA hl ⊢
        have i0 := ihs o0 (by simp) b d
        simp only [List.getD_cons_zero, List.getD_cons_succ] at hA hl ⊢
        generalize cg e st f o0 b d = g0 at *
        have i1 := ihs o1 (by simp) (b + g0.length + 1) d
        generalize cg e st f o1 (b + g0.length + 1) d = g1 at *
        rw [List.length_append, List.length_cons] at hl ⊢
        have eE : b + (g0.length + (g1.length + 1)) = b + g0.length + 1 + g1.length := by omega
        rw [eE] at hl ⊢
        have a1 := hA.right.head.1
        dsimp only at a1
        intro S
        obtain ⟨c1, c2⟩ := i0 hA.left (by omega) S
        obtain ⟨d1, d2⟩ := i1 hA.right.tail (by omega) S
        obtain ⟨e1, e2⟩ := bool_ty t0 ha
        obtain ⟨f1, f2⟩ := bool_ty t1 hb
        rw [e1]
        by_cases h0 : (g o0).2 = 0
        · obtain ⟨k1, k2⟩ := bool01 (t0.2 h0) ha
          rw [if_neg (fun h => h h0), e2 h0, if_neg (fun h => by rcases ho with g | g <;> (rw [h.1] at g; exact absurd g (by decide))), if_neg (fun h => by rcases ho with g | g <;> (rw [h] at g; exact absurd g (by decide)))]
          have hj := jmp_eq (E := ((b + g0.length + 1 + g1.length : Nat) : Int)) ho k2
          have hop : ((if (e[i].1 : Int) = 24 then (53 : Int) else 52) = 50 ∨ (if (e[i].1 : Int) = 24 then (53 : Int) else 52) = 52 ∨ (if (e[i].1 : Int) = 24 then (53 : Int) else 52) = 53) := by split <;> simp
          have hn50 : ¬ (if (e[i].1 : Int) = 24 then (53 : Int) else 52) = 50 := by split <;> decide
          by_cases hJ : ((e[i].1 : Int) = 23) = (((g o0).1.2.2 : Int) = 0)
          · rw [if_pos hJ]
            refine ⟨fun _ r hr => c1 h0 r (Runs.cond a1 hop rfl (by omega) hl k1 k2 ?_), fun h => absurd rfl h⟩
            rw [if_pos (hj.2 hJ), if_neg (by rw [hj.2 hJ]; exact fun h => h.elim (fun h => by cases h) hn50)]
            exact hr
          · rw [if_neg hJ]
            have hjf : jmp ((if (e[i].1 : Int) = 24 then 53 else 52, ((b + g0.length + 1 + g1.length : Nat) : Int)) : Int × Int) (g o0).1 = false := by
              rw [← Bool.not_eq_true]; exact fun h => hJ (hj.1 h)
            have step : ∀ r, Runs code env (b + g0.length + 1) S r → Runs code env b S r := fun r hr => c1 h0 r (Runs.cond a1 hop rfl (by omega) hl k1 k2 (by
              rw [hjf, if_neg (by simp), if_pos (.inl rfl)]
              exact hr))
            refine ⟨fun h r hr => step r (d1 (by rw [← f1]; exact h) r (by rw [f2 (by rw [← f1]; exact h)] at hr; exact hr)), fun h => ?_⟩
            rw [f1] at h ⊢
            exact step _ (d2 h)
        · rw [if_pos h0]
          exact ⟨fun h => absurd h h0, fun _ => c2 h0⟩
      · obtain ⟨o0, o1, o2, rfl⟩ := len3 (l := os) (by rw [← List.length_map (f := ty), hts]; rfl)
        simp only [List.map_cons, List.map_nil, List.cons.injEq, and_true] at hts
        have t0 := hs0 o0 (by simp)
        rw [hts.1] at t0
        have hao : ¬ ((e[i].1 : Int) = 23 ∨ (e[i].1 : Int) = 24) := fun h => by rcases h with g | g <;> (rw [ho] at g; exact absurd g (by decide))
        rw [if_neg hao, if_pos ho] at hA hl ⊢
        rw [if_neg (fun h => h hm0)]
        unfold cgIf at hA hl ⊢
        generalize hE : cgElse (cg e st f) [o0, o1, o2] b d = E at *
        unfold cgElse at hE
        have i0 := ihs o0 (by simp) b d
        simp only [List.getD_cons_zero, List.getD_cons_succ] at hA hl hE ⊢
        generalize cg e st f o0 b d = g0 at *
        have i1 := ihs o1 (by simp) (b + g0.length + 1) d
        generalize cg e st f o1 (b + g0.length + 1) d = g1 at *
        have i2 := ihs o2 (by simp) E d
        generalize cg e st f o2 E d = g2 at *
        rw [List.length_append, List.length_cons, List.length_append, List.length_cons] at hl ⊢
        have eE : b + (g0.length + (g1.length + (g2.length + 1) + 1)) = E + g2.length := by omega
        rw [eE] at hl ⊢
        have a1 := hA.right.head.1
        have a2 := hA.right.tail
        have a3 := a2.right.head.1
        have a5 := a2.right.tail
        rw [hE] at a5
        dsimp only at a1 a3
        intro S
        obtain ⟨c1, c2⟩ := i0 hA.left (by omega) S
        obtain ⟨d1, d2⟩ := i1 a2.left (by omega) S
        obtain ⟨x1, x2⟩ := i2 a5 hl S
        obtain ⟨e1, e2⟩ := bool_ty t0 ha
        rw [e1]
        by_cases h0 : (g o0).2 = 0
        · obtain ⟨k1, k2⟩ := bool01 (t0.2 h0) ha
          rw [if_neg (fun h => h h0), e2 h0]
          have hj : jmp ((50, (E : Int)) : Int × Int) (g o0).1 = true ↔ ¬ ((g o0).1.2.2 : Int) = 1 := by
            unfold jmp; simp
          by_cases hJ : ((g o0).1.2.2 : Int) = 1
          · rw [if_pos ⟨ho, hJ⟩]
            have hjf : jmp ((50, (E : Int)) : Int × Int) (g o0).1 = false := by
              rw [← Bool.not_eq_true]; exact fun h => hj.1 h hJ
            have step : ∀ r, Runs code env (b + g0.length + 1) S r → Runs code env b S r := fun r hr => c1 h0 r (Runs.cond a1 (.inl rfl) rfl (by omega) (by omega) k1 k2 (by
              rw [hjf, if_neg (by simp), if_pos (.inl rfl)]
              exact hr))
            exact ⟨fun h r hr => step r (d1 h r (Runs.jump a3 rfl rfl (by omega) (by omega) hr)), fun h => step _ (d2 h)⟩
          · rw [if_neg (fun h => hJ h.2), if_pos ho]
            have step : ∀ r, Runs code env E S r → Runs code env b S r := fun r hr => c1 h0 r (Runs.cond a1 (.inl rfl) rfl (by omega) (by omega) k1 k2 (by
              rw [if_pos (hj.2 hJ), if_pos (.inr rfl)]
              exact hr))
            exact ⟨fun h r hr => step r (x1 h r hr), fun h => step _ (x2 h)⟩
        · rw [if_pos h0]
          exact ⟨fun h => absurd h h0, fun _ => c2 h0⟩
    have hao : ¬ ((e[i].1 : Int) = 23 ∨ (e[i].1 : Int) = 24) := fun h => hz (h.elim .inl fun h => .inr (.inl h))
    have hif : ¬ (e[i].1 : Int) = 26 := fun h => hz (.inr (.inr h))
    rw [if_neg hz]
    rw [if_neg hao, if_neg hif] at hA hl ⊢
    rw [List.length_append, List.length_singleton] at hl ⊢
    obtain ⟨a, ha⟩ : ∃ a : Nat, ar e[i].1 = a := ⟨(ar e[i].1).toNat, by omega⟩
    have hj : ¬ (50 ≤ (e[i].1 : Int) ∧ (e[i].1 : Int) ≤ 53) := fun h => by have := ar_neg h.1; omega
    obtain ⟨b1, _⟩ := hA.right.head
    dsimp only at b1
    intro S
    obtain ⟨h1, h2⟩ := cgL_runs (code := code) (F := F) (env := env) (g := cg e st f) (v := nodeE (apE env) e st f) os b d (fun o ho b' d' hA' hl' => ih o b' d' (by have := hlt o ho; omega) (by have := hlt o ho; omega) hA' hl') hA.left (by omega) S
    cases hq : argsE (nodeE (apE env) e st f) os with
    | inr c =>
      refine ⟨fun h => absurd h (argsE_ne hq), fun _ => h2 c hq⟩
    | inl vs =>
      have hvl : vs.length = a := by rw [argsE_len hq, hlen]; omega
      have hsl : (S ++ vs).length - a = S.length := by rw [List.length_append]; omega
      have hdr : (S ++ vs).drop ((S ++ vs).length - a) = vs := by rw [hsl]; simp
      have htk : (S ++ vs).take ((S ++ vs).length - a) = S := by rw [hsl]; simp
      refine ⟨fun h0 r hr => h1 vs hq r ?_, fun h0 => h1 vs hq _ ?_⟩
      · refine Runs.op b1 hj ha (by rw [List.length_append]; omega) (by rw [hdr]; exact h0) ?_
        rw [hdr, htk]
        rw [← Nat.add_assoc] at hr
        exact hr
      · have := Runs.fail (env := env) (S := S ++ vs) b1 hj ha (by rw [List.length_append]; omega) (by rw [hdr]; exact h0)
        rw [hdr] at this
        exact this

theorem awake27 : M.law27_awake big = some true := by show (_ : Option Bool) = _; kernel_rfl

theorem node_zt {e : List Ty} {st : List Nat} {env : rEnv.den} (w : Whole e st) (he : EnvOK env) (hw : ∀ n ∈ e, WF rType n) : ∀ (f i : Nat), i < f → i < e.length → (nodeE (apE env) e st f i).2 ≠ 0 → (nodeE (apE env) e st f i).1 = z3
  | 0, _, h, _, _ => by omega
  | f + 1, i, hf, hi, h => by
    have hge : e.getD i ((0, 0) : Int × Int) = e[i] := by simp only [List.getD, List.getElem?_eq_getElem hi, Option.getD_some]
    have hlt := opsL_lt w.val hi
    have hlen := opsL_len st (ar e[i].1).toNat i
    have ih : ∀ o ∈ opsL st (ar e[i].1).toNat i, (nodeE (apE env) e st f o).2 ≠ 0 → (nodeE (apE env) e st f o).1 = z3 := fun o ho => node_zt w he hw f o (by have := hlt o ho; omega) (by have := hlt o ho; omega)
    have zb : ∀ r : Vl × Int, (boolE r).2 ≠ 0 → (boolE r).1 = z3 := fun r => by
      unfold boolE
      split
      · exact fun _ => rfl
      split
      · exact fun h => absurd rfl h
      · exact fun _ => rfl
    rw [nodeE, hge] at h ⊢
    by_cases hz : isLazy e[i].1
    · rw [if_pos hz] at h ⊢
      generalize hos : opsL st (ar e[i].1).toNat i = os at *
      generalize nodeE (apE env) e st f = g at *
      unfold lazyE at h ⊢
      split at h
      · rename_i c; rw [if_pos c]
      rename_i c1
      rw [if_neg c1]
      split at h
      · rename_i c; rw [if_pos c]
      rename_i c2
      rw [if_neg c2]
      have h3 : (e[i].1 : Int) = 26 → ∃ o0 o1 o2, os = [o0, o1, o2] := fun g => len3 (by rw [hlen, g]; rfl)
      split at h
      · rename_i c
        rw [if_pos c]
        obtain ⟨o0, o1, o2, rfl⟩ := h3 c.1
        exact ih o1 (by simp) h
      rename_i c3
      rw [if_neg c3]
      split at h
      · rename_i c
        rw [if_pos c]
        obtain ⟨o0, o1, o2, rfl⟩ := h3 c
        exact ih o2 (by simp) h
      rename_i c4
      rw [if_neg c4]
      split at h
      · exact absurd rfl h
      · rename_i c
        rw [if_neg c]
        exact zb _ h
    · rw [if_neg hz] at h ⊢
      cases hq : argsE (nodeE (apE env) e st f) (opsL st (ar e[i].1).toNat i) with
      | inr c => rfl
      | inl vs =>
        rw [hq] at h
        have hl : vs.length ≤ 100000 := by
          have a1 := argsE_len hq
          have a3 := ar_le e[i].1
          omega
        exact (ap_ok he (hw _ (List.getElem_mem hi)) hl).bad h

theorem cgL_mem {P : Ty × Int → Prop} {g : Nat → Nat → Int → List (Ty × Int)} : ∀ (os : List Nat) (b : Nat) (d : Int), (∀ o ∈ os, ∀ b d, ∀ x ∈ g o b d, P x) → ∀ x ∈ cgL g os b d, P x
  | [], _, _, _, x, h => by simp [cgL] at h
  | o :: os, b, d, hg, x, h => by
    rw [cgL] at h
    rcases List.mem_append.1 h with h | h
    · exact hg o (List.mem_cons_self ..) _ _ x h
    · exact cgL_mem os _ _ (fun o ho => hg o (List.mem_cons_of_mem _ ho)) x h
theorem cg_mem {e : List Ty} {st : List Nat} (w : Whole e st) : ∀ (f i b : Nat) (d : Int), i < e.length → ∀ x ∈ cg e st f i b d, ((x.1.1 : Int) = 50 ∨ (x.1.1 : Int) = 51 ∨ (x.1.1 : Int) = 52 ∨ (x.1.1 : Int) = 53) ∨ x.1 ∈ e
  | 0, _, _, _, _, x, h => by simp [cg] at h
  | f + 1, i, b, d, hi, x, h => by
    have hge : e.getD i ((0, 0) : Int × Int) = e[i] := by simp only [List.getD, List.getElem?_eq_getElem hi, Option.getD_some]
    have hlt := opsL_lt w.val hi
    have hlen := opsL_len st (ar e[i].1).toNat i
    have ih : ∀ o ∈ opsL st (ar e[i].1).toNat i, ∀ b d, ∀ x ∈ cg e st f o b d, ((x.1.1 : Int) = 50 ∨ (x.1.1 : Int) = 51 ∨ (x.1.1 : Int) = 52 ∨ (x.1.1 : Int) = 53) ∨ x.1 ∈ e := fun o ho b d => cg_mem w f o b d (by have := hlt o ho; omega)
    rw [cg, hge] at h
    generalize opsL st (ar e[i].1).toNat i = os at *
    split at h
    · rename_i hop
      obtain ⟨o0, o1, rfl⟩ := len2 (l := os) (by rw [hlen]; rcases hop with g | g <;> rw [g] <;> rfl)
      unfold cgAnd at h
      rcases List.mem_append.1 h with h | h
      · exact ih o0 (by simp) _ _ x h
      rcases List.mem_cons.1 h with rfl | h
      · left
        show (if _ then (53 : Int) else 52) = 50 ∨ (if _ then (53 : Int) else 52) = 51 ∨ (if _ then (53 : Int) else 52) = 52 ∨ (if _ then (53 : Int) else 52) = 53
        split <;> simp
      · exact ih o1 (by simp) _ _ x h
    split at h
    · rename_i hop
      obtain ⟨o0, o1, o2, rfl⟩ := len3 (l := os) (by rw [hlen, hop]; rfl)
      unfold cgIf at h
      rcases List.mem_append.1 h with h | h
      · exact ih o0 (by simp) _ _ x h
      rcases List.mem_cons.1 h with rfl | h
      · exact .inl (.inl rfl)
      rcases List.mem_append.1 h with h | h
      · exact ih o1 (by simp) _ _ x h
      rcases List.mem_cons.1 h with rfl | h
      · exact .inl (.inr (.inl rfl))
      · exact ih o2 (by simp) _ _ x h
    · rcases List.mem_append.1 h with h | h
      · exact cgL_mem os _ _ ih x h
      · rw [List.mem_singleton.1 h]
        exact .inr (List.getElem_mem hi)

theorem VmAgrees_true (e : List Ty) (s : Sg) (env : rEnv.den) (hwe : WF (.slice rType) e) (_ : WF rSignature s) (_ : WF rEnv env) : M.law27_VmAgrees big e s env = some true := by
  apply Wp.eq
  unfold M.law27_VmAgrees
  rw [awake27]
  simp only [Option.bind_some]
  refine Wp.seq (fun j => j = false → EnvOK env ∧ Agr s env ∧ env.2.2.2.2.2.length ≤ 10) ?_ fun j hj => ?_
  · refine Wp.dec (fun _ => .some fun h => by cases h) fun _ => ?_
    refine Wp.seq _ (sg_wp s) fun b1 h1 => ?_
    refine Wp.ite (fun _ => .some fun h => by cases h) fun c1 => ?_
    have hs := h1 (by simpa using c1)
    refine Wp.seq _ small_ok fun b2 h2 => ?_
    refine Wp.ite (fun _ => .some fun h => by cases h) fun c2 => ?_
    have he := h2 (by simpa using c2)
    refine Wp.seq _ (agrees_wp hs he) fun b3 h3 => ?_
    refine Wp.ite (fun _ => .some fun h => by cases h) fun c3 => ?_
    have ha := h3 (by simpa using c3)
    refine Wp.seq _ (tables_wp hs he) fun b4 h4 => .some fun h => ?_
    obtain ⟨t1, t2⟩ := h4 (by simpa using h)
    refine ⟨he, ⟨fun k t hk => ?_, fun k t hk => ?_, ha.mts, fun l hl k t hk => ?_, t2⟩, by have := hs.tables; omega⟩
    · obtain ⟨v, g1, g2⟩ := ha.inp.2 k t hk
      exact ⟨v, g1, g2.resolve_right (by simp)⟩
    · obtain ⟨v, g1, g2⟩ := ha.dfs.2 k t hk
      exact ⟨v, g1, g2.imp id fun h => h.2⟩
    · obtain ⟨v, g1, g2⟩ := (ha.mem l hl).2 k t hk
      exact ⟨v, g1, g2.imp id fun h => h.2⟩
  refine Wp.ite (fun _ => .some rfl) fun hc => ?_
  obtain ⟨he, ag, htl⟩ := hj (by simpa using hc)
  have hwf := wf_mem hwe
  refine Wp.join (Wp.loop (fun q : Int => ∃ k : Nat, q = k ∧ k ≤ env.2.2.2.2.2.length) (fun q => (env.2.2.2.2.2.length - q).toNat) ⟨0, rfl, Nat.zero_le _⟩ (by unfold big; omega) ?_)
  rintro _ ⟨k, rfl, hk⟩
  refine Wp.dec (fun h => ?_) fun h => .some ?_
  · have hk' : k < env.2.2.2.2.2.length := by omega
    rw [idx_nat hk', wrap_succ (by omega)]
    simp only [Option.bind_some]
    refine Wp.seq _ (validate_wp ..) fun y _ => Wp.ite (fun _ => .some ?_) fun _ => .some ?_
    · exact rfl
    · exact ⟨⟨k + 1, rfl, hk'⟩, by simp only; omega⟩
  show Wp _ _
  refine Wp.seq _ (TypeOf_wp hwf) fun r hr => ?_
  refine Wp.ndec (fun _ => .some rfl) fun h0 => ?_
  obtain ⟨st, w, ty, hrt, hty⟩ := hr h0
  have hpos : 0 < e.length := List.length_pos_iff.2 w.ne
  have hle := w.le
  have f := code0_ok w
  have hcode : M.bytecode_Compile big e = some (0, ins (code0 e st)) := by
    have hst : M.expr_Starts big e = some ((sres e).2.1, (sres e).2.2) := by
      unfold M.expr_Starts
      rw [structure_eq]
      rfl
    unfold M.bytecode_Compile
    rw [hst, w.res]
    simp only [Option.bind_some]
    rw [if_neg (by simp), show IntKind.i64.wrap ((e.length : Int) - 1) = ((e.length - 1 : Nat) : Int) by rw [wrap_id (by omega) (by omega)]; omega]
    unfold M.bytecode_compileNode
    rw [compile_eq w e.length (e.length - 1) big (by omega) (by omega) (by unfold big; omega) [] 0 (by simp; omega)]
    rfl
  have hA : At (ins (code0 e st)) (deps e st) 0 (code0 e st) := fun k hk => by
    rw [Nat.zero_add]
    refine ⟨by simp [ins, hk], ?_⟩
    unfold gd List.getD deps
    rw [List.getElem?_append_left (by simpa using hk)]
    simp [hk]
  have hcmp := cg_runs (code := ins (code0 e st)) (F := deps e st) w he ag hty e.length (e.length - 1) 0 0 (by omega) (by omega) hA (by rw [Nat.zero_add]; exact Nat.le_of_eq (List.length_map ..).symm)
  have hruns : Runs (ins (code0 e st)) env 0 [] ((nodeE (apE env) e st e.length (e.length - 1)).1, (nodeE (apE env) e st e.length (e.length - 1)).2) := by
    obtain ⟨c1, c2⟩ := hcmp []
    rw [Nat.zero_add] at c1
    by_cases hz : (nodeE (apE env) e st e.length (e.length - 1)).2 = 0
    · refine c1 hz _ ?_
      rw [hz, show (cg e st e.length (e.length - 1) 0 0).length = (ins (code0 e st)).length from (List.length_map ..).symm]
      exact Runs.done
    · rw [node_zt w he hwf e.length (e.length - 1) (by omega) (by omega) hz]
      exact c2 hz
  have hwc : ∀ n ∈ ins (code0 e st), WF rType n := fun n hn => by
    obtain ⟨j, hj, rfl⟩ := List.mem_iff_getElem.1 hn
    obtain ⟨hstep, _⟩ := f.step j hj
    have hle' := f.le
    obtain ⟨x, hx, hxn⟩ := List.mem_map.1 (List.getElem_mem hj)
    rcases cg_mem w e.length (e.length - 1) 0 0 (by omega) x hx with h | h
    · rw [hxn] at h
      generalize (ins (code0 e st))[j] = n at *
      obtain ⟨(op : Int), (m : Int)⟩ := n
      dsimp only [rInt, Row.den] at *
      have hm : 0 ≤ m ∧ m ≤ 128 := by
        rcases hstep with ⟨h1, t, h2, h3, h4, h5⟩ | ⟨h1, h2, h3, t, h4, h5, h6, h7⟩ | ⟨h1, h2, h3, h4, h5, h6⟩
        · dsimp only [rInt, Row.den] at *; omega
        · dsimp only [rInt, Row.den] at *; omega
        · dsimp only [rInt, Row.den] at *; omega
      refine ⟨⟨?_, ?_⟩, ⟨?_, ?_⟩⟩
      · show (-9223372036854775808 : Int) ≤ op; omega
      · show op ≤ (9223372036854775807 : Int); omega
      · show (-9223372036854775808 : Int) ≤ m; omega
      · show m ≤ (9223372036854775807 : Int); omega
    · rw [hxn] at h
      exact hwf _ h
  rw [hcode]
  simp only [Option.bind_some]
  rw [Eval_whole w he hwf]
  refine Wp.ndec (fun h => absurd trivial h) fun _ => ?_
  refine Wp.seq _ (Run_runs he hwc f.le (Verify_ok f) hruns) fun x hx => ?_
  obtain ⟨v, n, c⟩ := x
  obtain ⟨h1, h2⟩ := hx
  dsimp only at h1 h2
  subst h1 h2
  simp [eqR]
  exact .some rfl
end L
end Go.Proofs.YtomgmnkalommeaaGreatDoor
