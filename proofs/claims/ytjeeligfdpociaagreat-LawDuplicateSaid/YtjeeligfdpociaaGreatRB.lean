/- The reference's types of expressions (plain laws): structure, the type of a node, TypeOf. -/
import Derived.Test.YtjeeligfdpociaaGreatRA
namespace Go.Proofs.YtjeeligfdpociaaGreat
open Go Go.RowKit
set_option maxRecDepth 100000
set_option linter.unusedSimpArgs false
namespace L
abbrev Sgn : Type := rSignature.den

theorem ar10_eq (op : Int) : M.ref10_Arity big op = some (ar op) := by
  apply Wp.eq; unfold M.ref10_Arity ar; simp only [a_, b_, c_, d_, e_, f_, g_, h_, i_, j_, k_, l_, m_, n_, o_, p_, q_, r_, s_, t_, u_, v_, w_, x_, y_, z_, A_, B_, C_, D_, E_, F_, G_, H_, I_, J_, K_, L_, M_, N_, O_, P_, reduceCtorEq]; omega
theorem natL_get {sk : List Nat} {j : Nat} (h : j < sk.length) : idx (natL sk) (j : Int) = some ((sk.getD j 0 : Nat) : Int) := by
  rw [idx_nat (by simpa using h)]
  simp [List.getD, h]
theorem natL_len (l : List Nat) : (natL l).length = l.length := List.length_map _
theorem natL_snoc (l : List Nat) (x : Nat) : natL l ++ [(x : Int)] = natL (l ++ [x]) := by simp [natL]

theorem structure10_eq (e : List Ty) : M.ref10_structure big e = some (sres e) := by
  apply Wp.eq
  unfold M.ref10_structure
  simp only [ar10_eq, a_, b_, c_, d_, e_, f_, g_, h_, i_, j_, k_, l_, m_, n_, o_, p_, q_, r_, s_, t_, u_, v_, w_, x_, y_, z_, A_, B_, C_, D_, E_, F_, G_, H_, I_, J_, K_, L_, M_, N_, O_, P_, reduceCtorEq]
  refine ⟨fun h => by unfold sres; rw [if_pos (by omega)], fun h48 => ⟨fun h0 => by unfold sres; rw [if_neg (by omega), if_pos (by omega)], fun h0 => ?_⟩⟩
  have hS : sres e = match srun e 0 [] [] with
    | .inl (i, c) => ((i : Int), c, [])
    | .inr (st, sk) => if 1 < sk.length then ((e.length : Int), 4, []) else (0, 0, natL st) := by unfold sres; rw [if_neg (by omega), if_neg (by omega)]; cases srun e 0 [] [] <;> rfl
  refine Wp.count (fun s => s.1) e.length (fun k s => ∃ st sk, s.2 = (natL st, natL sk) ∧ srun e 0 [] [] = srun (e.drop k) k st sk ∧ sk.length ≤ 12 ∧ st.length = k) (by omega) rfl ⟨[], [], rfl, rfl, by simp, rfl⟩ fun k s hk hs hJ => ?_
  obtain ⟨i, _⟩ := s
  obtain ⟨st, sk, h, hr, h12, hst⟩ := hJ
  dsimp only at hs h
  subst hs h
  simp only [a_, b_, c_, d_, e_, f_, g_, h_, i_, j_, k_, l_, m_, n_, o_, p_, q_, r_, s_, t_, u_, v_, w_, x_, y_, z_, A_, B_, C_, D_, E_, F_, G_, H_, I_, J_, K_, L_, M_, N_, O_, P_, reduceCtorEq, countQ_inl, countQ_inr, natL_len]
  refine ⟨fun hlt => ?_, fun hge => ?_⟩
  · have hlt : k < e.length := by omega
    rw [List.drop_eq_getElem_cons hlt, srun] at hr
    simp only [idx_nat hlt, a_, b_, c_, d_, e_, f_, g_, h_, i_, j_, k_, l_, m_, n_, o_, p_, q_, r_, s_, t_, u_, v_, w_, x_, y_, z_, A_, B_, C_, D_, E_, F_, G_, H_, I_, J_, K_, L_, M_, N_, O_, P_, reduceCtorEq]
    obtain ⟨a, ha⟩ : ∃ a, a = ar e[k].1 := ⟨_, rfl⟩
    have ha3 := ar_le e[k].1
    simp only [← ha] at hr ha3 ⊢
    refine ⟨fun hn => ?_, fun hn => ?_⟩
    · rw [hS, hr, if_pos hn]
    rw [if_neg hn] at hr
    refine ⟨fun h5 => ?_, fun h5 => ?_⟩
    · rw [hS, hr, if_pos h5]
    rw [if_neg h5] at hr
    have fin : ∀ x : Nat, x = sst a k sk → Wp (appA (natL (sk.take (sk.length - a.toNat))) [(x : Int)]) (fun l8 => Wp (appA (natL st) [(x : Int)]) fun l9 => (12 < (l8.length : Int) → ((k : Int), ((16 : Int), ([] : List Int))) = sres e) ∧ (¬ 12 < (l8.length : Int) → k < e.length ∧ IntKind.i64.wrap ((k : Int) + 1) = ((k + 1 : Nat) : Int) ∧ ∃ st sk, (l9, l8) = (natL st, natL sk) ∧ srun e 0 [] [] = srun (e.drop (k + 1)) (k + 1) st sk ∧ sk.length ≤ 12 ∧ st.length = k + 1)) := by
      intro x hx
      refine wp_app.2 ⟨by rw [natL_len, List.length_take]; simp; omega, wp_app.2 ⟨by rw [natL_len]; simp; omega, ?_⟩⟩
      rw [natL_snoc, natL_snoc, natL_len, List.length_append, List.length_take]
      simp only [List.length_cons, List.length_nil]
      refine ⟨fun h => ?_, fun h => ⟨hlt, wrapS (m := e.length) (by omega) hlt, st ++ [x], sk.take (sk.length - a.toNat) ++ [x], rfl, ?_, ?_, ?_⟩⟩
      · rw [hS, hr, if_pos (by omega)]
      · rw [hr, if_neg (by omega), hx]
      · rw [List.length_append, List.length_take]; simp; omega
      · rw [List.length_append, hst]; rfl
    refine ⟨fun hp => ?_, fun hp => ?_⟩
    · have w1 : IntKind.i64.wrap ((sk.length : Int) - a) = ((sk.length - a.toNat : Nat) : Int) := by rw [wrap_id (by omega) (by omega)]; omega
      simp only [w1, natL_get (show sk.length - a.toNat < sk.length by omega), cutA_zero (show sk.length - a.toNat ≤ (natL sk).length by rw [natL_len]; omega), a_, b_, c_, d_, e_, f_, g_, h_, i_, j_, k_, l_, m_, n_, o_, p_, q_, r_, s_, t_, u_, v_, w_, x_, y_, z_, A_, B_, C_, D_, E_, F_, G_, H_, I_, J_, K_, L_, M_, N_, O_, P_, reduceCtorEq]
      rw [← List.map_take]
      exact fin _ (by unfold sst; rw [if_neg (by omega)])
    · have : a.toNat = 0 := by omega
      have := fin k (by unfold sst; rw [if_pos (by omega)])
      rw [‹a.toNat = 0›, Nat.sub_zero, List.take_length] at this
      exact this
  · obtain rfl : k = e.length := by omega
    rw [List.drop_length, srun] at hr
    rw [hS, hr]
    refine ⟨fun h => ?_, fun h => ?_⟩
    · exact (if_pos (c := 1 < sk.length) (by omega)).symm
    · exact (if_neg (c := 1 < sk.length) (by omega)).symm

/-! ## The type of a node -/
theorem meaning_eq (op : Int) : M.ref10_meaning big op = some (decide ((1 ≤ op ∧ op ≤ 8) ∨ (14 ≤ op ∧ op ≤ 16) ∨ op = 33 ∨ op = 34 ∨ (36 ≤ op ∧ op ≤ 39))) := by
  apply Wp.eq; unfold M.ref10_meaning; simp only [a_, b_, c_, d_, e_, f_, g_, h_, i_, j_, k_, l_, m_, n_, o_, p_, q_, r_, s_, t_, u_, v_, w_, x_, y_, z_, A_, B_, C_, D_, E_, F_, G_, H_, I_, J_, K_, L_, M_, N_, O_, P_, reduceCtorEq]; omega
theorem number_eq (k : Int) : M.ref10_number big k = some (decide (k = 2 ∨ k = 3 ∨ k = 4)) := by
  apply Wp.eq; unfold M.ref10_number; simp only [a_, b_, c_, d_, e_, f_, g_, h_, i_, j_, k_, l_, m_, n_, o_, p_, q_, r_, s_, t_, u_, v_, w_, x_, y_, z_, A_, B_, C_, D_, E_, F_, G_, H_, I_, J_, K_, L_, M_, N_, O_, P_, reduceCtorEq]; omega
theorem ordered_eq (k : Int) : M.ref10_ordered big k = some (decide (k = 2 ∨ k = 3 ∨ k = 4 ∨ k = 5)) := by
  apply Wp.eq; unfold M.ref10_ordered; simp only [number_eq, a_, b_, c_, d_, e_, f_, g_, h_, i_, j_, k_, l_, m_, n_, o_, p_, q_, r_, s_, t_, u_, v_, w_, x_, y_, z_, A_, B_, C_, D_, E_, F_, G_, H_, I_, J_, K_, L_, M_, N_, O_, P_, reduceCtorEq]; omega
theorem kind_eq (k : Int) : M.ref10_kind big k = some ((k, (0 : Int)) : Ty) := rfl
/-- N of a node is in range. -/
def Rgd (op m : Int) (s : Sgn) : Prop := (1 ≤ op ∧ op ≤ 5 → InB m (op, (0 : Int)) s.1) ∧ (14 ≤ op ∧ op ≤ 16 → 0 ≤ m ∧ m ≤ 5) ∧ (op = 34 → 0 ≤ m ∧ Int.tmod m 8 ≤ 5) ∧ (op = 6 → 0 ≤ m)
instance (op m : Int) (s : Sgn) : Decidable (Rgd op m s) := by unfold Rgd; infer_instance
theorem Rgd_eq (n : Ty) (s : Sgn) : M.ref10_ranged big n s = some (decide (Rgd n.1 n.2 s)) := by
  obtain ⟨(op : Int), (m : Int)⟩ := n
  apply Wp.eq
  unfold M.ref10_ranged
  simp only [kind_eq, bnd_eq, a_, b_, c_, d_, e_, f_, g_, h_, i_, j_, k_, l_, m_, n_, o_, p_, q_, r_, s_, t_, u_, v_, w_, x_, y_, z_, A_, B_, C_, D_, E_, F_, G_, H_, I_, J_, K_, L_, M_, N_, O_, P_, reduceCtorEq]
  unfold Rgd InB
  dsimp only [rInt, Row.den] at *
  generalize bnd (op, (0 : Int)) s.1 = b
  omega
/-- What a node refers to exists. -/
def Fnd (op m : Int) (s : Sgn) : Prop :=
  (op = 6 → IntKind.i64.wrap (Int.tdiv m 16) < (s.1.length : Int) ∧ Int.tmod m 16 < (((s.1[(IntKind.i64.wrap (Int.tdiv m 16)).toNat]?).map fun e => (e.2.length : Int)).getD 0)) ∧
  (op = 7 → 0 ≤ m ∧ m < (s.2.2.1.length : Int)) ∧ (op = 8 → 0 ≤ m ∧ m < (s.2.2.2.1.length : Int)) ∧ (op = 33 → 0 ≤ m ∧ m < (s.2.1.length : Int)) ∧ (op = 34 → IntKind.i64.wrap (Int.tdiv m 8) < (s.2.1.length : Int)) ∧
  (35 ≤ op ∧ op ≤ 39 → s.2.2.2.2.2 = true) ∧ (36 ≤ op ∧ op ≤ 39 → 0 ≤ m ∧ m < (s.2.2.2.2.1.length : Int))
instance (op m : Int) (s : Sgn) : Decidable (Fnd op m s) := by unfold Fnd; infer_instance
theorem div16 {m k : Int} (h0 : 0 ≤ m) (h1 : m ≤ 9223372036854775807) (hk : 0 < k) : 0 ≤ IntKind.i64.wrap (Int.tdiv m k) := by
  have h2 : 0 ≤ Int.tdiv m k := Int.tdiv_nonneg h0 (by omega)
  have h3 : Int.tdiv m k ≤ m := by rw [Int.tdiv_eq_ediv_of_nonneg h0]; exact Int.ediv_le_self _ h0
  rw [wrap_id (by omega) (by omega)]
  exact h2
theorem Fnd_eq (n : Ty) (s : Sgn) (hm : (n.2 : Int) ≤ 9223372036854775807) (hr : Rgd n.1 n.2 s) : M.ref10_found big n s = some (decide (Fnd n.1 n.2 s)) := by
  obtain ⟨(op : Int), (m : Int)⟩ := n
  apply Wp.eq
  unfold M.ref10_found
  simp only [a_, b_, c_, d_, e_, f_, g_, h_, i_, j_, k_, l_, m_, n_, o_, p_, q_, r_, s_, t_, u_, v_, w_, x_, y_, z_, A_, B_, C_, D_, E_, F_, G_, H_, I_, J_, K_, L_, M_, N_, O_, P_, reduceCtorEq]
  unfold Fnd
  unfold Rgd at hr
  dsimp only [rInt, Row.den] at *
  refine ⟨fun h6 => ⟨fun h => ?_, fun h => ?_⟩, fun h6 => ?_⟩
  · have h0 := div16 (k := 16) (hr.2.2.2 h6) hm (by omega)
    refine wp_idx.2 ⟨⟨h0, h⟩, ?_⟩
    rw [List.getElem?_eq_getElem (show (IntKind.i64.wrap (Int.tdiv m 16)).toNat < s.1.length by omega)]
    exact ⟨fun g => ⟨fun _ => ⟨h, g⟩, by omega, by omega, by omega, by omega, fun _ => by omega, by omega⟩, fun g => (g.1 h6).2⟩
  · exact fun g => h (g.1 h6).1
  simp only [h6, a_, b_, c_, d_, e_, f_, g_, h_, i_, j_, k_, l_, m_, n_, o_, p_, q_, r_, s_, t_, u_, v_, w_, x_, y_, z_, A_, B_, C_, D_, E_, F_, G_, H_, I_, J_, K_, L_, M_, N_, O_, P_, reduceCtorEq]
  cases h5 : s.2.2.2.2.2 <;> simp only [imp_false, a_, b_, c_, d_, e_, f_, g_, h_, i_, j_, k_, l_, m_, n_, o_, p_, q_, r_, s_, t_, u_, v_, w_, x_, y_, z_, A_, B_, C_, D_, E_, F_, G_, H_, I_, J_, K_, L_, M_, N_, O_, P_, reduceCtorEq] <;> omega

theorem leaf_tot {op m : Int} {s : Sgn} (hf : Fnd op m s) : Wp (M.ref10_leaf big (op, m) s) fun _ => True := by
  unfold M.ref10_leaf
  simp only [kind_eq, ordered_eq, VTp_eq, a_, b_, c_, d_, e_, f_, g_, h_, i_, j_, k_, l_, m_, n_, o_, p_, q_, r_, s_, t_, u_, v_, w_, x_, y_, z_, A_, B_, C_, D_, E_, F_, G_, H_, I_, J_, K_, L_, M_, N_, O_, P_, reduceCtorEq]
  unfold Fnd at hf
  dsimp only [rInt, Row.den] at *
  refine fun h6 => ⟨fun h7 => ?_, fun h7 => ⟨fun h8 => ?_, fun h8 => fun h9 h35 => ?_⟩⟩
  · exact wp_idx.2 ⟨hf.2.1 h7, trivial⟩
  · exact wp_idx.2 ⟨hf.2.2.1 h8, trivial⟩
  · by_cases h : 36 ≤ op ∧ op ≤ 39
    · have : Wp (idx s.2.2.2.2.1 m) fun _ => True := wp_idx.2 ⟨hf.2.2.2.2.2.2 h, trivial⟩
      simp only [this, a_, b_, c_, d_, e_, f_, g_, h_, i_, j_, k_, l_, m_, n_, o_, p_, q_, r_, s_, t_, u_, v_, w_, x_, y_, z_, A_, B_, C_, D_, E_, F_, G_, H_, I_, J_, K_, L_, M_, N_, O_, P_, reduceCtorEq]
    · simp only [show ¬ op = 36 by omega, show ¬ op = 37 by omega, show ¬ op = 38 by omega, show ¬ op = 39 by omega, a_, b_, c_, d_, e_, f_, g_, h_, i_, j_, k_, l_, m_, n_, o_, p_, q_, r_, s_, t_, u_, v_, w_, x_, y_, z_, A_, B_, C_, D_, E_, F_, G_, H_, I_, J_, K_, L_, M_, N_, O_, P_, reduceCtorEq]
theorem single_tot {op m : Int} {a : Ty} {s : Sgn} (hm : m ≤ 9223372036854775807) (h1 : ar op = 1) (hr : Rgd op m s) (hf : Fnd op m s) : Wp (M.ref10_single big (op, m) a s) fun _ => True := by
  have hop : op = 10 ∨ op = 25 ∨ (31 ≤ op ∧ op ≤ 34) := by
    clear hr hf
    unfold ar at h1
    omega
  unfold M.ref10_single
  simp only [kind_eq, number_eq, VTp_eq, a_, b_, c_, d_, e_, f_, g_, h_, i_, j_, k_, l_, m_, n_, o_, p_, q_, r_, s_, t_, u_, v_, w_, x_, y_, z_, A_, B_, C_, D_, E_, F_, G_, H_, I_, J_, K_, L_, M_, N_, O_, P_, reduceCtorEq]
  unfold Fnd at hf
  unfold Rgd at hr
  dsimp only [rInt, Row.den] at *
  have key : ¬ op = 31 → ¬ op = 32 → ¬ op = 10 → ¬ op = 25 → (op = 33 → Wp (idx s.2.1 m) fun _ => True) ∧ (¬ op = 33 → Wp (idx s.2.1 (IntKind.i64.wrap (m.tdiv 8))) fun _ => True) := by
    refine fun h31 h32 h10 h25 => ⟨fun h33 => wp_idx.2 ⟨hf.2.2.2.1 h33, trivial⟩, fun h33 => ?_⟩
    have h34 : op = 34 := by clear hr hf; omega
    exact wp_idx.2 ⟨⟨div16 (hr.2.2.1 h34).1 hm (by omega), hf.2.2.2.2.1 h34⟩, trivial⟩
  exact fun h10 h25 => ⟨fun h31 g => absurd h31 g, fun h31 h32 => key h31 h32 h10 h25⟩
theorem scaled_tot (op a b : Int) : Wp (M.ref10_scaled big op a b) fun _ => True := by
  unfold M.ref10_scaled
  simp only [kind_eq, a_, b_, c_, d_, e_, f_, g_, h_, i_, j_, k_, l_, m_, n_, o_, p_, q_, r_, s_, t_, u_, v_, w_, x_, y_, z_, A_, B_, C_, D_, E_, F_, G_, H_, I_, J_, K_, L_, M_, N_, O_, P_, reduceCtorEq]
theorem double_tot (op : Int) (a b : Ty) : Wp (M.ref10_double big op a b) fun _ => True := by
  obtain ⟨r, e, _⟩ := scaled_tot op a.1 b.1
  unfold M.ref10_double
  repeat' first | exact Wp.some trivial | exact ⟨_, number_eq _, trivial⟩ | exact ⟨_, ordered_eq _, trivial⟩ | exact ⟨_, kind_eq _, trivial⟩ | exact ⟨_, e, trivial⟩ | refine Wp.seq (fun _ => True) ?_ fun _ _ => ?_ | refine Wp.dec (fun _ => ?_) fun _ => ?_ | refine Wp.ite (fun _ => ?_) fun _ => ?_
/-- The type of a node for the types of its operands, or its error. -/
noncomputable def tyN (n : Ty) (l : List Ty) (s : Sgn) : Ty × Int := (M.ref10_Result big n l s).getD (((0 : Int), (0 : Int)), (0 : Int))
theorem tyN_eq {n : Ty} {l : List Ty} {s : Sgn} (hw : WF rType n) (hl : (l.length : Int) = ar n.1) : M.ref10_Result big n l s = some (tyN n l s) := by
  refine (Wp.getD (Q := fun _ => True) ?_ _).1
  have hm : (n.2 : Int) ≤ 9223372036854775807 := hw.2.2
  have h3 := ar_le n.1
  have key : Wp (M.ref10_ranged big n s) fun x => x = true → Wp (M.ref10_found big n s) fun x => x = true → ((l.length : Int) = 0 → Wp (M.ref10_leaf big n s) fun _ => True) ∧ (¬ (l.length : Int) = 0 → ((l.length : Int) = 1 → Wp (idx l 0) fun x => Wp (M.ref10_single big n x s) fun _ => True) ∧
      (¬ (l.length : Int) = 1 → ((l.length : Int) = 2 → Wp (idx l 0) fun x => Wp (idx l 1) fun x_1 => Wp (M.ref10_double big n.1 x x_1) fun _ => True) ∧ (¬ (l.length : Int) = 2 → Wp (idx l 1) fun _ => Wp (idx l 0) fun x => (x.1 : Int) = 1 → Wp (idx l 1) fun _ => Wp (idx l 2) fun _ => True))) := by
    rw [Rgd_eq]
    refine .some fun hr => ?_
    have hr : Rgd n.1 n.2 s := of_decide_eq_true hr
    rw [Fnd_eq n s hm hr]
    refine .some fun hf => ?_
    have hf : Fnd n.1 n.2 s := of_decide_eq_true hf
    exact ⟨fun _ => leaf_tot hf, fun h0 => ⟨fun h1 => wp_idx.2 ⟨by omega, single_tot hm (by omega) hr hf⟩, fun h1 => ⟨fun h2 => wp_idx.2 ⟨by omega, wp_idx.2 ⟨by omega, double_tot ..⟩⟩, fun h2 => wp_idx.2 ⟨by omega, wp_idx.2 ⟨by omega, fun _ => wp_idx.2 ⟨by omega, wp_idx.2 ⟨by omega, trivial⟩⟩⟩⟩⟩⟩⟩
  unfold M.ref10_Result
  simp only [meaning_eq, a_, b_, c_, d_, e_, f_, g_, h_, i_, j_, k_, l_, m_, n_, o_, p_, q_, r_, s_, t_, u_, v_, w_, x_, y_, z_, A_, B_, C_, D_, E_, F_, G_, H_, I_, J_, K_, L_, M_, N_, O_, P_, reduceCtorEq]
  exact ⟨fun _ _ => key, fun _ => key⟩

/-! ## The type of an expression -/
noncomputable def tyRun (s : Sgn) : List Ty → Nat → List Ty → (Nat × Int) ⊕ List Ty
  | [], _, stk => .inr stk
  | n :: e, i, stk =>
    if (tyN n (stk.drop (stk.length - (ar n.1).toNat)) s).2 ≠ 0 then .inl (i, (tyN n (stk.drop (stk.length - (ar n.1).toNat)) s).2)
    else tyRun s e (i + 1) (stk.take (stk.length - (ar n.1).toNat) ++ [(tyN n (stk.drop (stk.length - (ar n.1).toNat)) s).1])
noncomputable def tyE (e : List Ty) (s : Sgn) : Ty × Int × Int :=
  if (sres e).2.1 ≠ 0 then (((0 : Int), (0 : Int)), (sres e).1, (sres e).2.1) else match tyRun s e 0 [] with
    | .inl (i, c) => (((0 : Int), (0 : Int)), (i : Int), c)
    | .inr stk => (stk.headD ((0 : Int), (0 : Int)), 0, 0)
theorem sres_ok {e : List Ty} (h : (sres e).2.1 = 0) : e.length ≤ 48 ∧ e ≠ [] ∧ ∃ st sk, srun e 0 [] [] = .inr (st, sk) := by
  unfold sres at h
  split at h
  · cases h
  split at h
  · cases h
  rename_i h1 h2
  refine ⟨by omega, fun e => h2 (by rw [e]; rfl), ?_⟩
  split at h
  · rename_i c hc
    exfalso
    have : ∀ (e : List Ty) (i : Nat) (st sk : List Nat) (j : Nat), srun e i st sk ≠ .inl (j, 0) := by
      intro e
      induction e with
      | nil => intro i st sk j h; cases h
      | cons n e ih =>
        intro i st sk j h
        rw [srun] at h
        split at h
        · cases h
        split at h
        · cases h
        split at h
        · cases h
        exact ih _ _ _ _ h
    have hc0 : c = 0 := h
    subst hc0
    exact this _ _ _ _ _ hc
  · rename_i st sk hs
    exact ⟨st, sk, hs⟩
theorem tyE_eq {e : List Ty} {s : Sgn} (hw : ∀ n ∈ e, WF rType n) : M.ref10_TypeOf big e s = some (tyE e s) := by
  apply Wp.eq
  unfold M.ref10_TypeOf
  simp only [structure10_eq, ar10_eq, a_, b_, c_, d_, e_, f_, g_, h_, i_, j_, k_, l_, m_, n_, o_, p_, q_, r_, s_, t_, u_, v_, w_, x_, y_, z_, A_, B_, C_, D_, E_, F_, G_, H_, I_, J_, K_, L_, M_, N_, O_, P_, reduceCtorEq]
  refine ⟨fun h => by unfold tyE; rw [if_pos h], fun h0 => ?_⟩
  obtain ⟨h48, hne, st', sk', hsr⟩ := sres_ok h0
  have hT : tyE e s = match tyRun s e 0 [] with
    | .inl (i, c) => (((0 : Int), (0 : Int)), (i : Int), c)
    | .inr stk => (stk.headD ((0 : Int), (0 : Int)), 0, 0) := by unfold tyE; rw [if_neg (by omega)]
  refine Wp.count (fun s => s.1) e.length (fun k q => ∃ st sk, q.2.length = sk.length ∧ srun e 0 [] [] = srun (e.drop k) k st sk ∧ tyRun s e 0 [] = tyRun s (e.drop k) k q.2 ∧ q.2.length ≤ k ∧ (0 < k → q.2 ≠ [])) (by omega) rfl ⟨[], [], rfl, rfl, rfl, Nat.le_refl _, fun h => by omega⟩ fun k q hk hs hJ => ?_
  obtain ⟨i, stk⟩ := q
  obtain ⟨st, sk, hl, hr, ht, hlk, hpos⟩ := hJ
  dsimp only at hs hl ht hlk hpos
  subst hs
  simp only [a_, b_, c_, d_, e_, f_, g_, h_, i_, j_, k_, l_, m_, n_, o_, p_, q_, r_, s_, t_, u_, v_, w_, x_, y_, z_, A_, B_, C_, D_, E_, F_, G_, H_, I_, J_, K_, L_, M_, N_, O_, P_, reduceCtorEq, countQ_inl, countQ_inr]
  refine ⟨fun hlt => ?_, fun hge => ?_⟩
  · have hlt : k < e.length := by omega
    rw [List.drop_eq_getElem_cons hlt, srun] at hr
    rw [List.drop_eq_getElem_cons hlt, tyRun] at ht
    rw [hsr] at hr
    have ha3 := ar_le e[k].1
    split at hr
    · cases hr
    split at hr
    · cases hr
    split at hr
    · cases hr
    rename_i ha0 ha1 ha2
    have w1 : IntKind.i64.wrap ((stk.length : Int) - ar e[k].1) = ((stk.length - (ar e[k].1).toNat : Nat) : Int) := by rw [wrap_id (by omega) (by omega)]; omega
    have hd : ((stk.drop (stk.length - (ar e[k].1).toNat)).length : Int) = ar e[k].1 := by rw [List.length_drop]; omega
    simp only [idx_nat hlt, w1, cutA_zero (show stk.length - (ar e[k].1).toNat ≤ stk.length by omega), cutA_eq (l := stk) (stk.length - (ar e[k].1).toNat) stk.length rfl rfl (by omega) (Nat.le_refl _), List.take_length, tyN_eq (hw _ (List.getElem_mem hlt)) hd, a_, b_, c_, d_, e_, f_, g_, h_, i_, j_, k_, l_, m_, n_, o_, p_, q_, r_, s_, t_, u_, v_, w_, x_, y_, z_, A_, B_, C_, D_, E_, F_, G_, H_, I_, J_, K_, L_, M_, N_, O_, P_, reduceCtorEq]
    refine ⟨fun hc => ?_, fun hc => ?_⟩
    · rw [hT, ht, if_pos hc]
    · rw [if_neg (fun g => g hc)] at ht
      refine wp_app.2 ⟨by rw [List.length_take]; simp; omega, hlt, wrapS (m := e.length) (by omega) hlt, _, _, ?_, hsr.trans hr, ht, ?_, fun _ => by simp⟩
      · simp only [List.length_append, List.length_take, List.length_cons, List.length_nil, hl]
      · simp only [List.length_append, List.length_take, List.length_cons, List.length_nil]; omega
  · obtain rfl : k = e.length := by omega
    rw [List.drop_length, tyRun] at ht
    rw [hT, ht]
    have : stk ≠ [] := hpos (List.length_pos_iff.2 hne)
    obtain ⟨a, l, rfl⟩ := List.exists_cons_of_ne_nil this
    exact wp_idx.2 ⟨by simp, rfl⟩
end L
end Go.Proofs.YtjeeligfdpociaaGreat
