/- Typed expressions: their values (plain laws). -/
import Derived.Test.YtomgmnkalommeaaGreatDoorPY5
import Derived.Test.YtomgmnkalommeaaGreatDoorPX7
namespace Go.Proofs.YtomgmnkalommeaaGreatDoor
open Go Go.RowKit
set_option maxRecDepth 100000
namespace L

/-- The types of the nodes of an expression. -/
def Typ (e : List Ty) (st : List Nat) (s : Sg) (ty : Nat → Ty) (i : Nat) : Prop :=
  ∀ h : i < e.length, ((e[i].2 : Int) = 0 ∨ us e[i].1) ∧ NT e[i].1 e[i].2 ((opsL st (ar e[i].1).toNat i).map ty) s (ty i)

theorem opsL_lt {e : List Ty} {st : List Nat} (v : Val e st) {i : Nat} (h : i < e.length) : ∀ o ∈ opsL st (ar e[i].1).toNat i, o < i := fun o ho => (v.ops h o ho).1
theorem opsL_below {st l : List Nat} {i : Nat} (c : Ch st i l) {a : Nat} (ha : a ≤ l.length) : ∀ o ∈ opsL st a i, o < i := fun o ho => (ops_ok c a ha o ho).1

theorem TypeOf_wp {e : List Ty} {s : Sg} (hw : ∀ n ∈ e, WF rType n) : Wp (M.expr_TypeOf big e s) fun r => r.2.2 = 0 → ∃ st, Whole e st ∧ ∃ ty : Nat → Ty, r.1 = ty (e.length - 1) ∧ ∀ i, Typ e st s ty i := by
  unfold M.expr_TypeOf
  rw [structure_eq]
  simp only [Option.bind_some]
  rcases sres_cases e with hbad | ⟨st, w⟩
  · rw [if_pos (by simp [hbad])]
    exact .some fun h => absurd h hbad
  rw [w.res]
  simp only
  rw [if_neg (by simp)]
  have hp : 0 < e.length := List.length_pos_iff.2 w.ne
  have hle := w.le
  refine Wp.join (Wp.loop (fun q : Int × List Ty => ∃ k : Nat, q.1 = k ∧ k ≤ e.length ∧ ∃ l, Ch st k l ∧ ∃ ty : Nat → Ty, q.2 = (opsL st l.length k).map ty ∧ ∀ j, j < k → Typ e st s ty j) (fun q => (e.length - q.1).toNat) ⟨0, rfl, Nat.zero_le _, [], .nil, fun _ => ((0 : Int), (0 : Int)), rfl, fun j h => by omega⟩ (by unfold big; simp only; omega) ?_)
  rintro ⟨_, stk⟩ ⟨k, rfl, hk, l, hc, ty, hstk, hty⟩
  dsimp only at hstk ⊢
  refine Wp.dec (fun hlt => ?_) fun hge => .some ?_
  · have hlt : k < e.length := by omega
    have hwn := hw _ (List.getElem_mem hlt)
    obtain ⟨v1, l', v2, v3, v4, v5⟩ := w.val.node k hlt
    obtain rfl := v2.uniq hc
    have har := ar_le e[k].1
    have hsl : stk.length = l'.length := by rw [hstk, List.length_map, opsL_len]
    rw [idx_nat hlt]
    simp only [Option.bind_some, arity_eq]
    refine Wp.seq (fun j => j = false → ((e[k].2 : Int) = 0 ∨ us e[k].1)) ?_ fun j hj => ?_
    · refine Wp.ndec (fun _ => Wp.seq _ (uses_wp ..) fun y hy => .some fun h => .inr (hy.1 (by simpa using h))) fun h => .some fun _ => .inl h
    refine Wp.ite (fun _ => .some ?_) fun hcj => ?_
    · show (2 : Int) = 0 → _
      exact fun h => by cases h
    have hus := hj (by simpa using hcj)
    obtain ⟨a, ha⟩ : ∃ a : Nat, ar e[k].1 = a := ⟨(ar e[k].1).toNat, by omega⟩
    have ha' : (ar e[k].1).toNat = a := by omega
    have hnext := hc.next v1 v3 v5
    rw [ha'] at v3 hnext
    rw [ha] at hnext v5
    have wl : IntKind.i64.wrap ((stk.length : Int) - ar e[k].1) = ((stk.length - a : Nat) : Int) := by rw [wrap_id (by omega) (by omega)]; omega
    rw [wl, cutA_eq (stk.length - a) stk.length rfl rfl (by omega) (Nat.le_refl _), cutA_zero (by omega), List.take_length]
    simp only [Option.bind_some]
    have hsplit := opsL_split hc a v3
    have hdrop : stk.drop (stk.length - a) = (opsL st a k).map ty := by
      rw [hsl, hstk, ← List.map_drop, hsplit, List.drop_append_of_le_length (by rw [opsL_len]; exact Nat.le_refl _), List.drop_of_length_le (by rw [opsL_len]; exact Nat.le_refl _), List.nil_append]
    have htake : stk.take (stk.length - a) = (opsL st (l'.length - a) (sst (a : Int) k l')).map ty := by
      rw [hsl, hstk, ← List.map_take, hsplit, List.take_append_of_le_length (by rw [opsL_len]; exact Nat.le_refl _), List.take_of_length_le (by rw [opsL_len]; exact Nat.le_refl _)]
    rw [hdrop, htake]
    have hm : (e[k].2 : Int) ≤ 9223372036854775807 := hwn.2.2
    have hnt := node_ty big e[k].1 e[k].2 hm ((opsL st a k).map ty) s (by rw [List.length_map, opsL_len]; exact ha.symm)
    refine Wp.seq _ hnt fun r hr => ?_
    refine Wp.ndec (fun h => .some ?_) fun h0 => ?_
    · exact fun g => absurd g h
    have hr := hr h0
    rw [appA_some (by simp [opsL_len]; omega)]
    simp only [Option.bind_some]
    rw [wrap_succ (by omega)]
    refine .some ⟨⟨k + 1, rfl, hlt, _, hnext, fun i => if i = k then r.1 else ty i, ?_, fun j hj h => ?_⟩, by simp only; omega⟩
    · have e1 : (l'.take (l'.length - a) ++ [sst (a : Int) k l']).length = l'.length - a + 1 := by simp
      have hg : st.getD (k + 1 - 1) 0 = sst (a : Int) k l' := by simp [List.getD, v5]
      have e2 : opsL st (l'.length - a + 1) (k + 1) = opsL st (l'.length - a) (sst (a : Int) k l') ++ [k] := by rw [opsL, hg]; rfl
      have e3 : (opsL st (l'.length - a) (sst (a : Int) k l')).map (fun i => if i = k then r.1 else ty i) = (opsL st (l'.length - a) (sst (a : Int) k l')).map ty := List.map_congr_left fun o ho => by
        have : o < k := opsL_below hc (Nat.le_refl _) o (by rw [hsplit]; exact List.mem_append_left _ ho)
        rw [if_neg (by omega)]
      rw [e1, e2, List.map_append, e3]
      simp
    · have same : ∀ i, i ≤ k → ∀ o ∈ opsL st (ar e[j].1).toNat j, (if o = k then r.1 else ty o) = ty o := fun i _ o ho => by
        have := opsL_lt w.val h o ho
        rw [if_neg (by omega)]
      rw [List.map_congr_left (same k (Nat.le_refl _))]
      by_cases hjk : j = k
      · subst hjk
        refine ⟨hus, ?_⟩
        dsimp only
        rw [if_pos rfl, ha']
        exact hr
      · dsimp only
        rw [if_neg hjk]
        exact hty j (by omega) h
  · obtain rfl : k = e.length := by omega
    show Wp ((idx stk 0).bind _) _
    rw [hstk, one_ops w hc]
    exact .some fun _ => ⟨st, w, ty, rfl, fun i h => hty i h h⟩

theorem argsE_ty {g : Nat → Vl × Int} {ty : Nat → Ty} : ∀ {os : List Nat}, (∀ o ∈ os, TyOK (ty o) (g o)) → (∀ vs, argsE g os = .inl vs → Args vs (os.map ty)) ∧ ∀ c, argsE g os = .inr c → C3 c
  | [], _ => ⟨fun vs h => by cases h; trivial, fun c h => by cases h⟩
  | o :: os, h => by
    obtain ⟨i1, i2⟩ := argsE_ty (os := os) fun x hx => h x (List.mem_cons_of_mem _ hx)
    obtain ⟨t1, t2⟩ := h o (List.mem_cons_self ..)
    rw [argsE]
    split
    · rename_i h0
      cases hq : argsE g os with
      | inl vs => exact ⟨fun ws hw => by cases hw; exact ⟨t2 h0, i1 vs hq⟩, fun c hc => by cases hc⟩
      | inr d => exact ⟨fun ws hw => (by cases hw), fun c hc => by cases hc; exact i2 _ hq⟩
    · exact ⟨fun ws hw => (by cases hw), fun c hc => by cases hc; exact t1⟩

theorem bool_ty {r : Vl × Int} {t : Ty} (h : TyOK t r) (ht : (t.1 : Int) = 1) : (boolE r).2 = r.2 ∧ (r.2 = 0 → (boolE r).1 = r.1) := by
  unfold boolE
  by_cases h0 : r.2 = 0
  · rw [if_neg (fun g => g h0), if_pos ⟨(h.2 h0).2.1.trans ht, (h.2 h0).1⟩]
    exact ⟨h0.symm, fun _ => rfl⟩
  · rw [if_pos h0]
    exact ⟨rfl, fun g => absurd g h0⟩
theorem bool_ok {r : Vl × Int} {t : Ty} (h : TyOK t r) (ht : (t.1 : Int) = 1) : TyOK t (boolE r) := by
  obtain ⟨h1, h2⟩ := bool_ty h ht
  exact ⟨by rw [h1]; exact h.1, fun g => by rw [h2 (h1 ▸ g)]; exact h.2 (h1 ▸ g)⟩

theorem ty_bool {r : Vl × Int} {a : Ty} (h : TyOK a r) (ha : (a.1 : Int) = 1) : TyOK ((1 : Int), (0 : Int)) r :=
  ⟨h.1, fun g => ⟨(h.2 g).1, (h.2 g).2.1.trans ha, (h.2 g).2.2.trans (enum0 (h.2 g) (by rw [ha]; decide))⟩⟩
theorem lazy_rt {op : Int} {ts : List Ty} {t : Ty} (hz : isLazy op) (h : RT op ts t) : ((op = 23 ∨ op = 24) ∧ ∃ a b : Ty, ts = [a, b] ∧ (a.1 : Int) = 1 ∧ (b.1 : Int) = 1 ∧ t = ((1 : Int), (0 : Int))) ∨ (op = 26 ∧ ∃ a b : Ty, ts = [a, b, b] ∧ (a.1 : Int) = 1 ∧ t = b) := by
  unfold isLazy at hz
  rcases h with ⟨h, _⟩ | ⟨h, _⟩ | ⟨h, _⟩ | ⟨h, _⟩ | ⟨h, _⟩ | ⟨h, _⟩ | ⟨h, _⟩ | ⟨h, _⟩ | ⟨h, _⟩ | ⟨h, _⟩ | ⟨h, _⟩ | h | h | ⟨h, _⟩ | ⟨h, _⟩
  case inr.inr.inr.inr.inr.inr.inr.inr.inr.inr.inr.inl => exact .inl h
  case inr.inr.inr.inr.inr.inr.inr.inr.inr.inr.inr.inr.inl => exact .inr h
  all_goals omega

theorem node_sound {e : List Ty} {st : List Nat} {s : Sg} {ty : Nat → Ty} {env : rEnv.den} (w : Whole e st) (he : EnvOK env) (ag : Agr s env) (hty : ∀ i, Typ e st s ty i) : ∀ (f i : Nat), i < f → i < e.length → TyOK (ty i) (nodeE (apE env) e st f i)
  | 0, i, hf, _ => by omega
  | f + 1, i, hf, hi => by
    have ih := node_sound w he ag hty f
    have hlt := opsL_lt w.val hi
    obtain ⟨hus, hnt⟩ := hty i hi
    obtain ⟨v1, _⟩ := w.val.node i hi
    have hge : e.getD i ((0, 0) : Int × Int) = e[i] := by simp only [List.getD, List.getElem?_eq_getElem hi, Option.getD_some]
    have hlen := opsL_len st (ar e[i].1).toNat i
    have ihs : ∀ o ∈ opsL st (ar e[i].1).toNat i, TyOK (ty o) (nodeE (apE env) e st f o) := fun o ho => ih o (by have := hlt o ho; omega) (by have := hlt o ho; omega)
    rw [nodeE, hge]
    generalize hn : e[i] = n at *
    obtain ⟨(op : Int), (m : Int)⟩ := n
    dsimp only [rInt, Row.den] at *
    generalize opsL st (ar op).toNat i = os at *
    generalize nodeE (apE env) e st f = g at *
    by_cases hz : isLazy op
    · rw [if_pos hz]
      have hR : RT op (os.map ty) (ty i) := by
        unfold isLazy at hz
        rcases hnt with ⟨ho, _⟩ | ⟨ho, _⟩ | ⟨ho, _⟩ | ⟨ho, _⟩ | ⟨ho, _⟩ | ⟨ho, _⟩ | ⟨ho, _⟩ | ⟨ho, _⟩ | ⟨_, hR⟩
        · omega
        · omega
        · omega
        · omega
        · omega
        · omega
        · omega
        · omega
        · exact hR
      unfold lazyE
      dsimp only
      have hm0 : m = 0 := hus.resolve_right (by unfold isLazy at hz; unfold us; omega)
      rw [if_neg (fun h => h hm0)]
      rcases lazy_rt hz hR with ⟨ho, a, b, hts, ha, hb, ht⟩ | ⟨ho, a, b, hts, ha, ht⟩
      · obtain ⟨o1, o2, rfl⟩ := len2 (l := os) (by rw [← List.length_map (f := ty), hts]; rfl)
        simp only [List.map_cons, List.map_nil, List.cons.injEq, and_true] at hts
        have h1 := ihs o1 (by simp)
        have h2 := ihs o2 (by simp)
        rw [hts.1] at h1
        rw [hts.2] at h2
        have t1 := ty_bool (bool_ok h1 ha) ha
        have t2 := ty_bool (bool_ok h2 hb) hb
        rw [ht]
        show TyOK _ (if (boolE (g o1)).2 ≠ 0 then (z3, (boolE (g o1)).2) else if op = 26 ∧ ((boolE (g o1)).1.2.2 : Int) = 1 then g o2 else if op = 26 then _ else if (op = 23) = (((boolE (g o1)).1.2.2 : Int) = 0) then ((boolE (g o1)).1, 0) else boolE (g o2))
        by_cases h0 : (boolE (g o1)).2 ≠ 0
        · rw [if_pos h0]
          exact ⟨t1.1, fun h => absurd h h0⟩
        · rw [if_neg h0, if_neg (by omega), if_neg (by omega)]
          split
          · exact ⟨.inl rfl, fun _ => t1.2 (by omega)⟩
          · exact t2
      · obtain ⟨o1, o2, o3, rfl⟩ := len3 (l := os) (by rw [← List.length_map (f := ty), hts]; rfl)
        simp only [List.map_cons, List.map_nil, List.cons.injEq, and_true] at hts
        have h1 := ihs o1 (by simp)
        have h2 := ihs o2 (by simp)
        have h3 := ihs o3 (by simp)
        rw [hts.1] at h1
        rw [hts.2.1] at h2
        rw [hts.2.2] at h3
        have t1 := ty_bool (bool_ok h1 ha) ha
        rw [ht]
        show TyOK _ (if (boolE (g o1)).2 ≠ 0 then (z3, (boolE (g o1)).2) else if op = 26 ∧ ((boolE (g o1)).1.2.2 : Int) = 1 then g o2 else if op = 26 then g o3 else _)
        by_cases h0 : (boolE (g o1)).2 ≠ 0
        · rw [if_pos h0]
          exact ⟨t1.1, fun h => absurd h h0⟩
        · rw [if_neg h0]
          split
          · exact h2
          · exact h3
    · rw [if_neg hz]
      obtain ⟨i1, i2⟩ := argsE_ty ihs
      cases hq : argsE g os with
      | inr c => exact ⟨i2 c hq, fun h => absurd h (argsE_ne hq)⟩
      | inl vs =>
        obtain ⟨r, hr, hok⟩ := Apply_ty he ag hnt v1 hus (by rw [List.length_map, hlen]; omega) (i1 vs hq)
        show TyOK (ty i) ((M.eval_Apply big (op, m) vs env).getD (z3, 0))
        rw [hr]
        exact hok
end L
end Go.Proofs.YtomgmnkalommeaaGreatDoor
