/- The reference's validity of laws (plain laws): rules, scopes, Validate; what validity brings. -/
import Derived.Test.YtjeeligfdpociaaGreatRE
namespace Go.Proofs.YtjeeligfdpociaaGreat
open Go Go.RowKit
set_option maxRecDepth 100000
set_option linter.unusedSimpArgs false
namespace L

noncomputable def expE (e : List Ty) (s : Sgn) (want : Ty) : Int := if (tyE e s).2.2 ≠ 0 then (tyE e s).2.2 else if (tyE e s).1 ≠ want then 8 else 0
theorem expE_eq {e : List Ty} {s : Sgn} (want : Ty) (hw : ∀ n ∈ e, WF rType n) : M.ref17_exprError big e s want = some (expE e s want) := by
  apply Wp.eq
  unfold M.ref17_exprError
  simp only [tyE_eq hw, eqT, a_, b_, c_, d_, e_, f_, g_, h_, i_, j_, k_, l_, m_, n_, o_, p_, q_, r_, s_, t_, u_, v_, w_, x_, y_, z_, A_, B_, C_, D_, E_, F_, G_, H_, I_, J_, K_, L_, M_, N_, O_, P_, reduceCtorEq]
  unfold expE
  refine ⟨fun h => by rw [if_pos h], fun h => ?_⟩
  rw [if_neg (fun g => g h)]
  exact ⟨fun h => by rw [if_pos h], fun h => by rw [if_neg (fun g => g h)]⟩
/-- How many rules ahead of a rule are of its definition. -/
def sibs (x : Scp) (k : Nat) (d : Int) : Nat := (x.2.2.2.2.take k).countP fun r => decide ((r.2.1 : Int) = d)
def badPar (x : Scp) (k : Nat) (r : Rul) : Prop := (r.2.2.1 : Int) ≠ -1 ∧ ((r.2.2.1 : Int) < 0 ∨ (k : Int) ≤ r.2.2.1 ∨ ∃ y, x.2.2.2.2[(r.2.2.1 : Int).toNat]? = some y ∧ (y.2.1 : Int) ≠ r.2.1)
noncomputable instance (x : Scp) (k : Nat) (r : Rul) : Decidable (badPar x k r) := Classical.propDecidable _
noncomputable def rulE (l : Lw) (x : Scp) (k : Nat) (r : Rul) : Int :=
  if isId r.1 = false then 2 else if hasN (x.2.2.2.2.take k) r.1 then 7 else if ¬ (0 ≤ (r.2.1 : Int) ∧ (r.2.1 : Int) < (x.2.2.2.1.length : Int)) then 6 else if badPar x k r then 9 else
  if (r.2.2.2.1 : Int) < 0 ∨ 9 < (r.2.2.2.1 : Int) ∨ ¬ VR r.2.2.2.2.1 ∨ (r.2.2.2.2.1.1 : Int) = r.2.2.2.2.1.2 then 3 else if 8 ≤ sibs x k r.2.1 then 4 else if ¬ plain r.2.2.2.2.2.2.2 then 2 else
  if 0 < r.2.2.2.2.2.1.length ∧ expE r.2.2.2.2.2.1 (sigS l x) ((1 : Int), (0 : Int)) ≠ 0 then expE r.2.2.2.2.2.1 (sigS l x) ((1 : Int), (0 : Int)) else
  match x.2.2.2.1[(r.2.1 : Int).toNat]? with
  | some d => expE r.2.2.2.2.2.2.1 (sigS l x) d.2
  | none => 0
theorem rulE_eq (l : Lw) (hw : WF rLaw l) (hsm : SmallL l) (i : Nat) (hi : i < l.2.2.length) (k : Nat) (hk : k < l.2.2[i].2.2.2.2.length) : M.ref17_ruleError big l (i : Int) (k : Int) = some (rulE l l.2.2[i] k l.2.2[i].2.2.2.2[k]) := by
  have hsig := sigS_eq l i hi fun s hs => ⟨by have := (hsm.2.2.2.2.2 s hs).2.1; omega, by have := (hsm.2.2.2.2.2 s hs).2.2.1; omega⟩
  have hss := hsm.2.2.2.2.2 _ (List.getElem_mem hi)
  have hwx := hw.2.2.2 _ (List.getElem_mem hi)
  obtain ⟨x, hx⟩ : ∃ x, x = l.2.2[i] := ⟨_, rfl⟩
  simp only [← hx] at hk hsig hss hwx ⊢
  have hwr := hwx.2.2.2.2.2 _ (List.getElem_mem hk)
  have hsr := hss.2.2.2.2.2.2 _ (List.getElem_mem hk)
  obtain ⟨r, hr⟩ : ∃ r, r = x.2.2.2.2[k] := ⟨_, rfl⟩
  have h60 := hss.2.2.2.1
  apply Wp.eq
  unfold M.ref17_ruleError
  simp only [idx_nat hi, ← hx, idx_nat hk, ← hr, isId_eq, VR_eq, a_, b_, c_, d_, e_, f_, g_, h_, i_, j_, k_, l_, m_, n_, o_, p_, q_, r_, s_, t_, u_, v_, w_, x_, y_, z_, A_, B_, C_, D_, E_, F_, G_, H_, I_, J_, K_, L_, M_, N_, O_, P_, reduceCtorEq]
  simp only [← hr] at hwr hsr
  unfold rulE
  refine ⟨fun h => by rw [if_pos h], fun h1 => ?_⟩
  rw [if_neg (c := isId r.1 = false) (by simp [h1])]
  refine Wp.count (fun s => s.2) k (fun j s => (∀ q, q < j → ∀ h : q < x.2.2.2.2.length, ¬ (x.2.2.2.2[q].1 : ByteArray) = r.1) ∧ s.1 = (((x.2.2.2.2.take j).countP fun r' => decide ((r'.2.1 : Int) = r.2.1) : Nat) : Int)) (by omega) rfl ⟨fun j hj => by omega, rfl⟩ fun j s hj hs hJ => ?_
  obtain ⟨sb, c⟩ := s
  dsimp only at hs hJ
  subst hs
  obtain ⟨hJ, hsb⟩ := hJ
  have hcl : (x.2.2.2.2.take j).countP (fun r' => decide ((r'.2.1 : Int) = r.2.1)) ≤ 60 := Nat.le_trans List.countP_le_length (by rw [List.length_take]; omega)
  simp only [a_, b_, c_, d_, e_, f_, g_, h_, i_, j_, k_, l_, m_, n_, o_, p_, q_, r_, s_, t_, u_, v_, w_, x_, y_, z_, A_, B_, C_, D_, E_, F_, G_, H_, I_, J_, K_, L_, M_, N_, O_, P_, reduceCtorEq, countQ_inl, countQ_inr]
  refine ⟨fun hjk => ?_, fun hjk => ?_⟩
  · have hjl : j < x.2.2.2.2.length := by omega
    simp only [idx_nat hjl, wrapS (m := k) (by omega) (show j < k by omega), a_, b_, c_, d_, e_, f_, g_, h_, i_, j_, k_, l_, m_, n_, o_, p_, q_, r_, s_, t_, u_, v_, w_, x_, y_, z_, A_, B_, C_, D_, E_, F_, G_, H_, I_, J_, K_, L_, M_, N_, O_, P_, reduceCtorEq]
    refine ⟨fun h => ?_, fun h => ?_⟩
    · rw [if_pos (hasN_take.2 ⟨j, hjl, by omega, h⟩)]
    have hct : (x.2.2.2.2.take (j + 1)).countP (fun r' => decide ((r'.2.1 : Int) = r.2.1)) = (x.2.2.2.2.take j).countP (fun r' => decide ((r'.2.1 : Int) = r.2.1)) + if (x.2.2.2.2[j].2.1 : Int) = r.2.1 then 1 else 0 := by
      rw [← List.take_append_getElem hjl, List.countP_append]
      simp [List.countP_cons]
    refine ⟨fun h' => ⟨by omega, pre_succ hJ fun _ => h, ?_⟩, fun h' => ⟨by omega, pre_succ hJ fun _ => h, ?_⟩⟩
    · rw [hct, if_pos h', hsb, wrap_id (by omega) (by omega)]; rfl
    · rw [hct, if_neg h', hsb]; rfl
  obtain rfl : j = k := by omega
  rw [if_neg (c := hasN (x.2.2.2.2.take j) r.1) (fun h => by obtain ⟨q, hq, hqk, e⟩ := hasN_take.1 h; exact hJ q hqk hq e)]
  clear hJ
  have hcl : sibs x j r.2.1 ≤ 60 := hcl
  have hsb : sb = (sibs x j r.2.1 : Int) := hsb
  clear hk hr hjk hj
  generalize sibs x j r.2.1 = q at *
  subst hsb
  have hsz := hsr.2.1
  have hg := hwr.2.2.2.2.2.1.2
  have hv := hwr.2.2.2.2.2.2.1.2
  have hbp : badPar x j r ↔ (r.2.2.1 : Int) ≠ -1 ∧ ((r.2.2.1 : Int) < 0 ∨ (j : Int) ≤ r.2.2.1 ∨ ∃ y, x.2.2.2.2[(r.2.2.1 : Int).toNat]? = some y ∧ (y.2.1 : Int) ≠ r.2.1) := Iff.rfl
  clear hwr hsr
  obtain ⟨nm, (d : Int), (p : Int), (pr : Int), v, g, val, src⟩ := r
  dsimp only [rInt, Row.den] at *
  have rest : 0 ≤ d → d < (x.2.2.2.1.length : Int) → Wp (if decide (pr < 0) = true then some true else if decide (9 < pr) = true then some true else if ¬ VR v then some true else some (decide ((v.1 : Int) = v.2))) (fun j12 => Wp (if j12 = true then some (3 : Int) else if decide ((8 : Int) ≤ (q : Int)) = true then some 4 else (M.ref17_plainText big src).bind fun y14 => if (!y14) = true then some (2 : Int) else (M.ref17_Signature big l (i : Int)).bind fun y15 => Join (J := Unit) (R := Int) (if decide (0 < (g.length : Int)) = true then (M.ref17_exprError big g (y15.1, (y15.2.1, (y15.2.2.2.1, (y15.2.2.2.2.1, (y15.2.2.2.2.2, y15.2.2.1))))) ((1 : Int), (0 : Int))).bind fun y17 => if (!decide (y17 = 0)) = true then some (Sum.inr y17) else some (Sum.inl ()) else some (Sum.inl ())) fun _ => (idx x.2.2.2.1 d).bind fun x18 => (M.ref17_exprError big val (y15.1, (y15.2.1, (y15.2.2.2.1, (y15.2.2.2.2.1, (y15.2.2.2.2.2, y15.2.2.1))))) x18.2).bind fun y19 => some y19)
      (· = if pr < 0 ∨ 9 < pr ∨ ¬ VR v ∨ (v.1 : Int) = v.2 then 3 else if 8 ≤ q then 4 else if ¬ plain src then 2 else if 0 < g.length ∧ expE g (sigS l x) ((1 : Int), (0 : Int)) ≠ 0 then expE g (sigS l x) ((1 : Int), (0 : Int)) else match x.2.2.2.1[d.toNat]? with
        | some d => expE val (sigS l x) d.2
        | none => 0)) := by
    intro hd0 hd1
    refine Wp.mono (Q := fun j12 => j12 = true ↔ pr < 0 ∨ 9 < pr ∨ ¬ VR v ∨ (v.1 : Int) = v.2) (by simp only [a_, b_, c_, d_, e_, f_, g_, h_, i_, j_, k_, l_, m_, n_, o_, p_, q_, r_, s_, t_, u_, v_, w_, x_, y_, z_, A_, B_, C_, D_, E_, F_, G_, H_, I_, J_, K_, L_, M_, N_, O_, P_, reduceCtorEq]; grind) fun j12 h12 => ?_
    by_cases g1 : pr < 0 ∨ 9 < pr ∨ ¬ VR v ∨ (v.1 : Int) = v.2
    · rw [if_pos g1, if_pos (h12.2 g1)]; exact .some rfl
    rw [if_neg g1, if_neg fun h => g1 (h12.1 h)]
    by_cases g2 : 8 ≤ q
    · rw [if_pos (decide_eq_true (by omega)), if_pos g2]; exact .some rfl
    rw [if_neg (by rw [decide_eq_true_eq]; omega), if_neg g2, plain_eq _ (by omega), Option.bind_some]
    by_cases g3 : ¬ plain src
    · rw [if_pos (by simp [g3]), if_pos g3]; exact .some rfl
    rw [if_neg (by simpa using g3), if_neg g3, hsig, Option.bind_some]
    have hd : d.toNat < x.2.2.2.1.length := by omega
    have last : Wp ((idx x.2.2.2.1 d).bind fun x18 => (M.ref17_exprError big val (sigS l x) x18.2).bind fun y19 => some y19) (· = match x.2.2.2.1[d.toNat]? with
        | some d => expE val (sigS l x) d.2
        | none => 0) := by
      rw [wp_bind]
      refine wp_idx.2 ⟨by omega, ?_⟩
      rw [expE_eq _ hv, List.getElem?_eq_getElem hd]
      exact .some rfl
    rw [wp_join]
    by_cases g4 : 0 < g.length
    · rw [if_pos (by simpa using g4), wp_bind, show ((sigS l x).1, ((sigS l x).2.1, ((sigS l x).2.2.1, ((sigS l x).2.2.2.1, ((sigS l x).2.2.2.2.1, (sigS l x).2.2.2.2.2))))) = sigS l x from rfl, expE_eq _ hg]
      refine .some ?_
      by_cases g5 : expE g (sigS l x) ((1 : Int), (0 : Int)) = 0
      · rw [if_neg (by simp [g5]), if_neg (fun h => h.2 g5)]
        exact .some last
      · rw [if_pos (by simp [g5]), if_pos ⟨g4, g5⟩]
        exact .some rfl
    · rw [if_neg (by simpa using g4), if_neg (fun h => g4 h.1)]
      exact .some last
  simp only [a_, b_, c_, d_, e_, f_, g_, h_, i_, j_, k_, l_, m_, n_, o_, p_, q_, r_, s_, t_, u_, v_, w_, x_, y_, z_, A_, B_, C_, D_, E_, F_, G_, H_, I_, J_, K_, L_, M_, N_, O_, P_, reduceCtorEq] at rest
  refine ⟨fun h => by rw [if_pos (c := ¬ (0 ≤ d ∧ d < (x.2.2.2.1.length : Int))) (by omega)], fun h2 => ⟨fun h => by rw [if_pos (c := ¬ (0 ≤ d ∧ d < (x.2.2.2.1.length : Int))) (by omega)], fun h3 => ?_⟩⟩
  rw [if_neg (c := ¬ (0 ≤ d ∧ d < (x.2.2.2.1.length : Int))) (by omega)]
  have rest := rest (by omega) (by omega)
  have hjx : j < x.2.2.2.2.length := by rw [hx]; exact hk
  refine ⟨fun hp => ⟨fun h => by rw [if_pos (hbp.2 ⟨hp, .inl h⟩)], fun h => ⟨fun h' => by rw [if_pos (hbp.2 ⟨hp, .inr (.inl h')⟩)], fun h' => wp_idx.2 ⟨⟨by omega, by omega⟩, fun h5 => by rw [if_pos (hbp.2 ⟨hp, .inr (.inr ⟨_, List.getElem?_eq_getElem (by omega), h5⟩)⟩)], fun h5 => ?_⟩⟩⟩, fun hp => ?_⟩
  · rw [if_neg (fun h => by
      obtain ⟨_, g1 | g1 | ⟨y, g1, g2⟩⟩ := hbp.1 h
      · omega
      · omega
      · rw [List.getElem?_eq_getElem (by omega)] at g1
        cases g1
        exact g2 h5)]
    exact rest
  · rw [if_neg (fun h => (hbp.1 h).1 hp)]
    exact rest

/-! ## Scopes -/
noncomputable def rulS (l : Lw) (x : Scp) (k : Nat) : Option (Int × Int) := match x.2.2.2.2[k]? with
  | none => none
  | some r => if rulE l x k r ≠ 0 then some (rulE l x k r, 300 + (k : Int)) else none
noncomputable def cycS (x : Scp) (d : Nat) : Option (Int × Int) := if (d : Int) ∈ trS x d then some (9, 200 + (d : Int)) else none
def badMem (l : Lw) (k : Nat) (x : Scp) : Prop := (x.2.1 : Int) ≠ -1 ∧ ((x.2.1 : Int) < 0 ∨ (k : Int) ≤ x.2.1 ∨ ∃ y, l.2.2[(x.2.1 : Int).toNat]? = some y ∧ (y.2.1 : Int) ≠ -1)
noncomputable instance (l : Lw) (k : Nat) (x : Scp) : Decidable (badMem l k x) := Classical.propDecidable _
noncomputable def scpS (l : Lw) (k : Nat) : Option (Int × Int) := match l.2.2[k]? with
  | none => none
  | some x =>
    if isId x.1 = false then some (2, 0) else if hasN l.1 x.1 ∨ hasN l.2.1 x.1 ∨ hasN (l.2.2.take k) x.1 then some (7, 0) else if badMem l k x then some (6, 0) else
    if 12 < x.2.2.1.length then some (4, 112) else if 12 < x.2.2.2.1.length then some (4, 212) else ((fldS l x).or (firstE (rulS l x) x.2.2.2.2.length)).or (firstE (cycS x) x.2.2.2.1.length)
theorem fld_code {l : Lw} {x : Scp} {e : Int × Int} (h : fldS l x = some e) : e.1 ≠ 0 := by
  have key : ∀ (f : Nat → Option (Int × Int)), (∀ i e, f i = some e → e.1 ≠ 0) → ∀ {m e}, firstE f m = some e → e.1 ≠ 0 := fun f hf m e h => by
    obtain ⟨k, _, h, _⟩ := firstE_some h
    exact hf k e h
  unfold fldS at h
  rcases Option.or_eq_some_iff.1 h with h | ⟨_, h⟩
  · refine key _ (fun i e h => ?_) h
    unfold inpE at h
    repeat' split at h
    all_goals first | cases h | skip
    all_goals simp
  · refine key _ (fun i e h => ?_) h
    unfold defE at h
    repeat' split at h
    all_goals first | cases h | skip
    all_goals simp
theorem trS_srt (x : Scp) (d : Int) : Srt x.2.2.2.1.length (trS x d) := by
  have : ∀ m, Srt x.2.2.2.1.length (iterT x m (dirS x d)) := fun m => by
    induction m with
    | zero => exact dirS_srt x d
    | succ m ih => exact stepT_srt x ih
  exact this _
theorem scpS_eq (l : Lw) (hw : WF rLaw l) (hsm : SmallL l) (k : Nat) (hk : k < l.2.2.length) : M.ref17_scopeError big l (k : Int) = some (errOf 3 k (scpS l k)) := by
  have hss := hsm.2.2.2.2.2 _ (List.getElem_mem hk)
  have hrul := rulE_eq l hw hsm k hk
  have hfld := fldS_eq l k hk
  have hE : scpS l k = if isId l.2.2[k].1 = false then some (2, 0) else if hasN l.1 l.2.2[k].1 ∨ hasN l.2.1 l.2.2[k].1 ∨ hasN (l.2.2.take k) l.2.2[k].1 then some (7, 0) else if badMem l k l.2.2[k] then some (6, 0) else
    if 12 < l.2.2[k].2.2.1.length then some (4, 112) else if 12 < l.2.2[k].2.2.2.1.length then some (4, 212) else ((fldS l l.2.2[k]).or (firstE (rulS l l.2.2[k]) l.2.2[k].2.2.2.2.length)).or (firstE (cycS l.2.2[k]) l.2.2[k].2.2.2.1.length) := by
    unfold scpS
    rw [List.getElem?_eq_getElem hk]
  have hn3 := nt3 l hw k l.2.2[k].1
  obtain ⟨x, hx⟩ : ∃ x, x = l.2.2[k] := ⟨_, rfl⟩
  simp only [← hx] at hss hrul hfld hE hn3
  have h5 := hsm.2.2.1
  have h14 := hss.2.2.1
  have h60 := hss.2.2.2.1
  apply Wp.eq
  unfold M.ref17_scopeError
  simp only [idx_nat hk, ← hx, isId_eq, trS_eq x hss.few, a_, b_, c_, d_, e_, f_, g_, h_, i_, j_, k_, l_, m_, n_, o_, p_, q_, r_, s_, t_, u_, v_, w_, x_, y_, z_, A_, B_, C_, D_, E_, F_, G_, H_, I_, J_, K_, L_, M_, N_, O_, P_, reduceCtorEq]
  rw [hE]
  refine ⟨fun h => by rw [if_pos h]; rfl, fun h1 => ?_⟩
  rw [if_neg (c := isId x.1 = false) (by simp [h1])]
  refine hn3.mono fun r hr => ?_
  refine ⟨fun h => by rw [if_pos (hr.1 h)]; rfl, fun h2 => ?_⟩
  rw [if_neg (c := hasN l.1 x.1 ∨ hasN l.2.1 x.1 ∨ hasN (l.2.2.take k) x.1) ((isT hr).1 (by simpa using h2))]
  clear hn3 hr h2 r
  have rest : Wp ((if (decide ((12 : Int) < (x.2.2.1.length : Int))) = true then
      some ((4 : Int), ((3 : Int), ((k : Int), (112 : Int))))
      else
      (if (decide ((12 : Int) < (x.2.2.2.1.length : Int))) = true then
      some ((4 : Int), ((3 : Int), ((k : Int), (212 : Int))))
      else
      (M.ref17_fieldError big l (k : Int)).bind fun y6 =>
      (if (!decide (y6.1 = (0 : Int))) = true then
      some y6
      else
      Join (J := Unit) (R := rLawError.den) (Loop (S := Int) (X := (Unit) ⊕ (rLawError.den)) (fun s8 =>
      (if (decide (s8 < (x.2.2.2.2.length : Int))) = true then
      (M.ref17_ruleError big l (k : Int) s8).bind fun y9 =>
      (if (!decide (y9 = (0 : Int))) = true then
      some (Sum.inr (Sum.inr (y9, ((3 : Int), ((k : Int), IntKind.i64.wrap ((300 : Int) + s8))))))
      else
      some (Sum.inl (IntKind.i64.wrap (s8 + (1 : Int)))))
      else
      some (Sum.inr (Sum.inl ())))) big (0 : Int)) fun j7 =>
      Join (J := Unit) (R := rLawError.den) (Loop (S := Int) (X := (Unit) ⊕ (rLawError.den)) (fun s11 =>
      (if (decide (s11 < (x.2.2.2.1.length : Int))) = true then
      Join (J := Unit) (R := (Int) ⊕ ((Unit) ⊕ (rLawError.den))) ((some (trS x s11)).bind fun y13 =>
      Loop (S := Int) (X := (Unit) ⊕ ((Int) ⊕ ((Unit) ⊕ (rLawError.den)))) (fun s14 =>
      (if (decide (s14 < (y13.length : Int))) = true then
      (idx y13 s14).bind fun x15 =>
      (if (decide (x15 = s11)) = true then
      some (Sum.inr (Sum.inr (Sum.inr (Sum.inr ((9 : Int), ((3 : Int), ((k : Int), IntKind.i64.wrap ((200 : Int) + s11))))))))
      else
      some (Sum.inl (IntKind.i64.wrap (s14 + (1 : Int)))))
      else
      some (Sum.inr (Sum.inl ())))) big (0 : Int)) fun j12 =>
      some (Sum.inl (IntKind.i64.wrap (s11 + (1 : Int))))
      else
      some (Sum.inr (Sum.inl ())))) big (0 : Int)) fun j10 =>
      some ((0 : Int), ((0 : Int), ((0 : Int), (0 : Int))))))) : Option rLawError.den) (· = errOf 3 (k : Int) (if 12 < x.2.2.1.length then some (4, 112) else if 12 < x.2.2.2.1.length then some (4, 212) else ((fldS l x).or (firstE (rulS l x) x.2.2.2.2.length)).or (firstE (cycS x) x.2.2.2.1.length))) := by
    by_cases h3 : 12 < x.2.2.1.length
    · rw [if_pos h3, if_pos (decide_eq_true (by omega))]; exact .some rfl
    rw [if_neg h3, if_neg (by rw [decide_eq_true_eq]; omega)]
    by_cases h4 : 12 < x.2.2.2.1.length
    · rw [if_pos h4, if_pos (decide_eq_true (by omega))]; exact .some rfl
    rw [if_neg h4, if_neg (by rw [decide_eq_true_eq]; omega), hfld (by omega) (by omega), Option.bind_some]
    cases hf : fldS l x with
    | some e =>
      have := fld_code hf
      rw [if_pos (by show (!decide (e.1 = 0)) = true; simp [this])]
      exact .some rfl
    | none =>
      rw [if_neg (by simp [errOf, okE]), Option.none_or]
      simp only [a_, b_, c_, d_, e_, f_, g_, h_, i_, j_, k_, l_, m_, n_, o_, p_, q_, r_, s_, t_, u_, v_, w_, x_, y_, z_, A_, B_, C_, D_, E_, F_, G_, H_, I_, J_, K_, L_, M_, N_, O_, P_, reduceCtorEq]
      refine Wp.count (fun s => s) x.2.2.2.2.length (fun i _ => ∀ j, j < i → rulS l x j = none) (by omega) rfl (fun j hj => by omega) fun i c hi hs hJ => ?_
      obtain rfl : c = _ := hs
      simp only [a_, b_, c_, d_, e_, f_, g_, h_, i_, j_, k_, l_, m_, n_, o_, p_, q_, r_, s_, t_, u_, v_, w_, x_, y_, z_, A_, B_, C_, D_, E_, F_, G_, H_, I_, J_, K_, L_, M_, N_, O_, P_, reduceCtorEq, countQ_inl, countQ_inr]
      refine ⟨fun hlt => ?_, fun hge => ?_⟩
      · have hlt : i < x.2.2.2.2.length := by omega
        have hr : rulS l x i = if rulE l x i x.2.2.2.2[i] ≠ 0 then some (rulE l x i x.2.2.2.2[i], 300 + (i : Int)) else none := by
          unfold rulS
          rw [List.getElem?_eq_getElem hlt]
        simp only [hrul i hlt, wrap100 (k := i) (a := 300) (by omega) (by omega), wrapS (m := x.2.2.2.2.length) (by omega) hlt, a_, b_, c_, d_, e_, f_, g_, h_, i_, j_, k_, l_, m_, n_, o_, p_, q_, r_, s_, t_, u_, v_, w_, x_, y_, z_, A_, B_, C_, D_, E_, F_, G_, H_, I_, J_, K_, L_, M_, N_, O_, P_, reduceCtorEq]
        refine ⟨fun h => ?_, fun h => ⟨hlt, pre_succ hJ (by rw [hr, if_neg (fun g => g h)])⟩⟩
        rw [firstE_at (hr.trans (if_pos h)) hJ hlt]; rfl
      rw [firstE_none.2 fun j hj => hJ j (by omega), Option.none_or]
      clear hJ
      refine Wp.count (fun s => s) x.2.2.2.1.length (fun i _ => ∀ j, j < i → cycS x j = none) (by omega) rfl (fun j hj => by omega) fun i c hi hs hJ => ?_
      obtain rfl : c = _ := hs
      simp only [a_, b_, c_, d_, e_, f_, g_, h_, i_, j_, k_, l_, m_, n_, o_, p_, q_, r_, s_, t_, u_, v_, w_, x_, y_, z_, A_, B_, C_, D_, E_, F_, G_, H_, I_, J_, K_, L_, M_, N_, O_, P_, reduceCtorEq, countQ_inl, countQ_inr]
      refine ⟨fun hlt => ?_, fun hge => ?_⟩
      · have hlt : i < x.2.2.2.1.length := by omega
        have hlen := (trS_srt x i).len
        refine Wp.count (fun s => s) (trS x i).length (fun j _ => ∀ q, q < j → ∀ h : q < (trS x i).length, ¬ (trS x i)[q] = (i : Int)) (by omega) rfl (fun j hj => by omega) fun j c hj hs hI => ?_
        obtain rfl : c = _ := hs
        simp only [a_, b_, c_, d_, e_, f_, g_, h_, i_, j_, k_, l_, m_, n_, o_, p_, q_, r_, s_, t_, u_, v_, w_, x_, y_, z_, A_, B_, C_, D_, E_, F_, G_, H_, I_, J_, K_, L_, M_, N_, O_, P_, reduceCtorEq, countQ_inl, countQ_inr, wrap100 (k := i) (a := 200) (by omega) (by omega), wrapS (m := x.2.2.2.1.length) (by omega) hlt]
        refine ⟨fun hjl => ?_, fun hjl => ⟨hlt, pre_succ hJ ?_⟩⟩
        · have hjl : j < (trS x i).length := by omega
          simp only [idx_nat hjl, wrapS (m := (trS x i).length) (by omega) hjl, a_, b_, c_, d_, e_, f_, g_, h_, i_, j_, k_, l_, m_, n_, o_, p_, q_, r_, s_, t_, u_, v_, w_, x_, y_, z_, A_, B_, C_, D_, E_, F_, G_, H_, I_, J_, K_, L_, M_, N_, O_, P_, reduceCtorEq]
          refine ⟨fun h => ?_, fun h => ⟨hjl, pre_succ hI fun _ => h⟩⟩
          rw [firstE_at (show cycS x i = some (9, 200 + (i : Int)) from if_pos (List.mem_of_getElem h)) hJ hlt]; rfl
        · unfold cycS
          rw [if_neg]
          intro hm
          obtain ⟨q, hq, e⟩ := List.getElem_of_mem hm
          exact hI q (by omega) hq e
      · rw [firstE_none.2 fun j hj => hJ j (by omega)]; rfl
  simp only [a_, b_, c_, d_, e_, f_, g_, h_, i_, j_, k_, l_, m_, n_, o_, p_, q_, r_, s_, t_, u_, v_, w_, x_, y_, z_, A_, B_, C_, D_, E_, F_, G_, H_, I_, J_, K_, L_, M_, N_, O_, P_, reduceCtorEq] at rest
  have hbm : badMem l k x ↔ (x.2.1 : Int) ≠ -1 ∧ ((x.2.1 : Int) < 0 ∨ (k : Int) ≤ x.2.1 ∨ ∃ y, l.2.2[(x.2.1 : Int).toNat]? = some y ∧ (y.2.1 : Int) ≠ -1) := Iff.rfl
  refine ⟨fun hp => ⟨fun h => by rw [if_pos (hbm.2 ⟨hp, .inl h⟩)]; rfl, fun h => ⟨fun h' => by rw [if_pos (hbm.2 ⟨hp, .inr (.inl h')⟩)]; rfl, fun h' => ?_⟩⟩, fun hp => ?_⟩
  · obtain ⟨(m : Int), hm⟩ : ∃ m : Int, m = x.2.1 := ⟨_, rfl⟩
    have hmn : m.toNat < l.2.2.length := by dsimp only [rInt, Row.den] at *; omega
    refine wp_idx.2 ⟨by dsimp only [rInt, Row.den] at *; omega, fun h5 => by rw [if_pos (hbm.2 ⟨hp, .inr (.inr ⟨_, List.getElem?_eq_getElem (hm ▸ hmn), h5⟩)⟩)]; rfl, fun h5 => ?_⟩
    rw [if_neg (fun h => by
      obtain ⟨_, g1 | g1 | ⟨y, g1, g2⟩⟩ := hbm.1 h
      · exact absurd g1 ‹_›
      · exact absurd g1 h'
      · rw [List.getElem?_eq_getElem (hm ▸ hmn)] at g1
        cases g1
        exact g2 h5)]
    exact rest
  · rw [if_neg (fun h => (hbm.1 h).1 hp)]
    exact rest

/-! ## Validate -/
noncomputable def valS (l : Lw) : LE :=
  if 8 < l.1.length then ((4 : Int), ((1 : Int), ((8 : Int), (0 : Int)))) else match firstE (fun k => (enumS l k).map fun e => (k, e)) l.1.length with
  | some (k, e) => errOf 1 (k : Int) (some e)
  | none => if 8 < l.2.1.length then ((4 : Int), ((2 : Int), ((8 : Int), (0 : Int)))) else match firstE (fun k => (tabS l k).map fun e => (k, e)) l.2.1.length with
    | some (k, e) => errOf 2 (k : Int) (some e)
    | none => if 4 < l.2.2.length then ((4 : Int), ((3 : Int), ((4 : Int), (0 : Int)))) else match firstE (fun k => (scpS l k).map fun e => (k, e)) l.2.2.length with
      | some (k, e) => errOf 3 (k : Int) (some e)
      | none => okE
theorem first_code {f : Nat → Option (Int × Int)} (hf : ∀ i e, f i = some e → e.1 ≠ 0) {m : Nat} {e : Int × Int} (h : firstE f m = some e) : e.1 ≠ 0 := by
  obtain ⟨k, _, h, _⟩ := firstE_some h
  exact hf k e h
theorem enum_code {l : Lw} {k : Nat} {e : Int × Int} (h : enumS l k = some e) : e.1 ≠ 0 := by
  unfold enumS at h
  repeat' split at h
  all_goals first | cases h | skip
  all_goals first | simp; done | skip
  refine first_code (fun i e h => ?_) h
  unfold memE at h
  repeat' split at h
  all_goals first | cases h | skip
  all_goals simp
theorem tab_code {l : Lw} {k : Nat} {e : Int × Int} (h : tabS l k = some e) : e.1 ≠ 0 := by
  unfold tabS at h
  repeat' split at h
  all_goals first | cases h | skip
  all_goals first | simp; done | assumption
theorem scp_code {l : Lw} {k : Nat} {e : Int × Int} (h : scpS l k = some e) : e.1 ≠ 0 := by
  unfold scpS at h
  repeat' split at h
  all_goals first | cases h | skip
  all_goals first | simp; done | skip
  rcases Option.or_eq_some_iff.1 h with h | ⟨_, h⟩
  · rcases Option.or_eq_some_iff.1 h with h | ⟨_, h⟩
    · exact fld_code h
    · refine first_code (fun i e h => ?_) h
      unfold rulS at h
      repeat' split at h
      all_goals first | cases h | skip
      assumption
  · refine first_code (fun i e h => ?_) h
    unfold cycS at h
    repeat' split at h
    all_goals first | cases h | skip
    simp
theorem errOf_code {sec k : Int} {o : Option (Int × Int)} (h : ∀ e, o = some e → e.1 ≠ 0) : (errOf sec k o).1 = 0 ↔ o = none := by
  cases o with
  | none => exact ⟨fun _ => rfl, fun _ => rfl⟩
  | some e => exact ⟨fun g => absurd g (h e rfl), fun g => by cases g⟩
theorem mapk {f : Nat → Option (Int × Int)} {k : Nat} {e : Int × Int} (h : f k = some e) : (fun k => (f k).map fun e => (k, e)) k = some (k, e) := by simp [h]
theorem mapn {f : Nat → Option (Int × Int)} {k : Nat} (h : f k = none) : (fun k => (f k).map fun e => (k, e)) k = none := by simp [h]
theorem valS_eq (l : Lw) (hw : WF rLaw l) (hsm : SmallL l) : M.ref17_Validate big l = some (valS l) := by
  apply Wp.eq
  obtain ⟨h9, h9', h5, _⟩ := hsm
  unfold M.ref17_Validate
  simp only [a_, b_, c_, d_, e_, f_, g_, h_, i_, j_, k_, l_, m_, n_, o_, p_, q_, r_, s_, t_, u_, v_, w_, x_, y_, z_, A_, B_, C_, D_, E_, F_, G_, H_, I_, J_, K_, L_, M_, N_, O_, P_, reduceCtorEq]
  refine ⟨fun h => by unfold valS; rw [if_pos (by omega)], fun h8 => ?_⟩
  refine Wp.count (fun s => s) l.1.length (fun i _ => ∀ j, j < i → (fun k => (enumS l k).map fun e => (k, e)) j = none) (by omega) rfl (fun j hj => by omega) fun i c hi hs hJ => ?_
  obtain rfl : c = _ := hs
  simp only [a_, b_, c_, d_, e_, f_, g_, h_, i_, j_, k_, l_, m_, n_, o_, p_, q_, r_, s_, t_, u_, v_, w_, x_, y_, z_, A_, B_, C_, D_, E_, F_, G_, H_, I_, J_, K_, L_, M_, N_, O_, P_, reduceCtorEq, countQ_inl, countQ_inr]
  refine ⟨fun hlt => ?_, fun hge => ?_⟩
  · have hlt : i < l.1.length := by omega
    simp only [enumS_eq l hw i hlt, wrapS (m := l.1.length) (by omega) hlt, a_, b_, c_, d_, e_, f_, g_, h_, i_, j_, k_, l_, m_, n_, o_, p_, q_, r_, s_, t_, u_, v_, w_, x_, y_, z_, A_, B_, C_, D_, E_, F_, G_, H_, I_, J_, K_, L_, M_, N_, O_, P_, reduceCtorEq, errOf_code fun e he => enum_code he]
    refine ⟨fun h => ?_, fun h => ⟨hlt, pre_succ hJ (mapn h)⟩⟩
    obtain ⟨e, he⟩ := Option.ne_none_iff_exists'.1 h
    unfold valS
    rw [if_neg (by omega), firstE_at (mapk he) hJ hlt, he]
  have hA := firstE_none.2 fun j (hj : j < l.1.length) => hJ j (by omega)
  clear hJ
  refine ⟨fun h => by unfold valS; rw [if_neg (by omega), hA]; exact (if_pos (by omega)).symm, fun h8' => ?_⟩
  refine Wp.count (fun s => s) l.2.1.length (fun i _ => ∀ j, j < i → (fun k => (tabS l k).map fun e => (k, e)) j = none) (by omega) rfl (fun j hj => by omega) fun i c hi hs hJ => ?_
  obtain rfl : c = _ := hs
  simp only [a_, b_, c_, d_, e_, f_, g_, h_, i_, j_, k_, l_, m_, n_, o_, p_, q_, r_, s_, t_, u_, v_, w_, x_, y_, z_, A_, B_, C_, D_, E_, F_, G_, H_, I_, J_, K_, L_, M_, N_, O_, P_, reduceCtorEq, countQ_inl, countQ_inr]
  refine ⟨fun hlt => ?_, fun hge => ?_⟩
  · have hlt : i < l.2.1.length := by omega
    simp only [tabS_eq l hw i hlt, wrapS (m := l.2.1.length) (by omega) hlt, a_, b_, c_, d_, e_, f_, g_, h_, i_, j_, k_, l_, m_, n_, o_, p_, q_, r_, s_, t_, u_, v_, w_, x_, y_, z_, A_, B_, C_, D_, E_, F_, G_, H_, I_, J_, K_, L_, M_, N_, O_, P_, reduceCtorEq, errOf_code fun e he => tab_code he]
    refine ⟨fun h => ?_, fun h => ⟨hlt, pre_succ hJ (mapn h)⟩⟩
    obtain ⟨e, he⟩ := Option.ne_none_iff_exists'.1 h
    unfold valS
    rw [if_neg (by omega), hA]
    dsimp only
    rw [if_neg (by omega), firstE_at (mapk he) hJ hlt, he]
  have hB := firstE_none.2 fun j (hj : j < l.2.1.length) => hJ j (by omega)
  clear hJ
  refine ⟨fun h => by unfold valS; rw [if_neg (by omega), hA]; dsimp only; rw [if_neg (by omega), hB]; exact (if_pos (by omega)).symm, fun h4 => ?_⟩
  refine Wp.count (fun s => s) l.2.2.length (fun i _ => ∀ j, j < i → (fun k => (scpS l k).map fun e => (k, e)) j = none) (by omega) rfl (fun j hj => by omega) fun i c hi hs hJ => ?_
  obtain rfl : c = _ := hs
  simp only [a_, b_, c_, d_, e_, f_, g_, h_, i_, j_, k_, l_, m_, n_, o_, p_, q_, r_, s_, t_, u_, v_, w_, x_, y_, z_, A_, B_, C_, D_, E_, F_, G_, H_, I_, J_, K_, L_, M_, N_, O_, P_, reduceCtorEq, countQ_inl, countQ_inr]
  refine ⟨fun hlt => ?_, fun hge => ?_⟩
  · have hlt : i < l.2.2.length := by omega
    simp only [scpS_eq l hw ⟨h9, h9', h5, ‹_›⟩ i hlt, wrapS (m := l.2.2.length) (by omega) hlt, a_, b_, c_, d_, e_, f_, g_, h_, i_, j_, k_, l_, m_, n_, o_, p_, q_, r_, s_, t_, u_, v_, w_, x_, y_, z_, A_, B_, C_, D_, E_, F_, G_, H_, I_, J_, K_, L_, M_, N_, O_, P_, reduceCtorEq, errOf_code fun e he => scp_code he]
    refine ⟨fun h => ?_, fun h => ⟨hlt, pre_succ hJ (mapn h)⟩⟩
    obtain ⟨e, he⟩ := Option.ne_none_iff_exists'.1 h
    unfold valS
    rw [if_neg (by omega), hA]
    dsimp only
    rw [if_neg (by omega), hB]
    dsimp only
    rw [if_neg (by omega), firstE_at (mapk he) hJ hlt, he]
  have hC := firstE_none.2 fun j (hj : j < l.2.2.length) => hJ j (by omega)
  unfold valS
  rw [if_neg (by omega), hA]
  dsimp only
  rw [if_neg (by omega), hB]
  dsimp only
  rw [if_neg (by omega), hC]
  rfl
/-- A valid law. -/
def Valid (l : Lw) : Prop := (valS l).1 = 0
noncomputable instance (l : Lw) : Decidable (Valid l) := Classical.propDecidable _
theorem Valid.scopes {l : Lw} (h : Valid l) : l.1.length ≤ 8 ∧ l.2.1.length ≤ 8 ∧ l.2.2.length ≤ 4 ∧ (∀ k, k < l.1.length → enumS l k = none) ∧ (∀ k, k < l.2.1.length → tabS l k = none) ∧ ∀ k, k < l.2.2.length → scpS l k = none := by
  unfold Valid valS at h
  split at h
  · cases h
  split at h
  · rename_i k e hf
    obtain ⟨j, _, hj, _⟩ := firstE_some hf
    obtain ⟨e', he', h2⟩ := Option.map_eq_some_iff.1 hj
    cases h2
    exact absurd h (enum_code he')
  rename_i hA
  split at h
  · cases h
  split at h
  · rename_i k e hf
    obtain ⟨j, _, hj, _⟩ := firstE_some hf
    obtain ⟨e', he', h2⟩ := Option.map_eq_some_iff.1 hj
    cases h2
    exact absurd h (tab_code he')
  rename_i hB
  split at h
  · cases h
  split at h
  · rename_i k e hf
    obtain ⟨j, _, hj, _⟩ := firstE_some hf
    obtain ⟨e', he', h2⟩ := Option.map_eq_some_iff.1 hj
    cases h2
    exact absurd h (scp_code he')
  rename_i hC
  exact ⟨by omega, by omega, by omega, fun k hk => by simpa using firstE_none.1 hA k hk, fun k hk => by simpa using firstE_none.1 hB k hk, fun k hk => by simpa using firstE_none.1 hC k hk⟩
/-- What holds of the scope at a place of a valid law. -/
theorem Valid.scope {l : Lw} (h : Valid l) (k : Nat) (hk : k < l.2.2.length) : isId l.2.2[k].1 = true ∧ ¬ hasN (l.2.2.take k) l.2.2[k].1 ∧ ¬ badMem l k l.2.2[k] ∧ l.2.2[k].2.2.1.length ≤ 12 ∧ l.2.2[k].2.2.2.1.length ≤ 12 ∧ fldS l l.2.2[k] = none ∧
    (∀ i, ∀ hi : i < l.2.2[k].2.2.2.2.length, rulE l l.2.2[k] i l.2.2[k].2.2.2.2[i] = 0) ∧ ∀ d : Nat, d < l.2.2[k].2.2.2.1.length → ¬ (d : Int) ∈ trS l.2.2[k] d := by
  have h := h.scopes.2.2.2.2.2 k hk
  unfold scpS at h
  rw [List.getElem?_eq_getElem hk] at h
  dsimp only at h
  split at h
  · cases h
  split at h
  · cases h
  split at h
  · cases h
  split at h
  · cases h
  split at h
  · cases h
  rename_i h1 h2 h3 h4 h5
  rw [Option.or_eq_none_iff, Option.or_eq_none_iff] at h
  refine ⟨by simpa using h1, fun g => h2 (.inr (.inr g)), h3, by omega, by omega, h.1.1, fun i hi => ?_, fun d hd g => ?_⟩
  · have := firstE_none.1 h.1.2 i hi
    unfold rulS at this
    rw [List.getElem?_eq_getElem hi] at this
    dsimp only at this
    split at this
    · cases this
    · exact Classical.not_not.1 ‹_›
  · have := firstE_none.1 h.2 d hd
    unfold cycS at this
    rw [if_pos g] at this
    cases this
end L
end Go.Proofs.YtjeeligfdpociaaGreat
