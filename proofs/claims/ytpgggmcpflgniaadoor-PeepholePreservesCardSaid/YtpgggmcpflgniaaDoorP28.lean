/- Chapter 28: PeepholeStable and PeepholePreserves (plain laws). -/
import Derived.Test.YtpgggmcpflgniaaDoorPQ8
import Derived.Test.YtpgggmcpflgniaaDoorOpen
namespace Go.Proofs.YtpgggmcpflgniaaDoor
open Go Go.RowKit
set_option maxRecDepth 100000
namespace L

/-- One round of RemoveUnreachable. -/
noncomputable def bodyR (s4 : List rNode.den) : Option (List rNode.den ⊕ List rNode.den) :=
(M.peephole_reachable big s4).bind fun y5 =>
(Loop (S := Int × List Bool) (X := List Bool) (fun s7 =>
(if (decide (s7.1 < (s4.length : Int))) = true then
((idx s4 s7.1).bind fun x9 =>
((if (decide (x9.1 = (51 : Int))) = true then
some (decide (x9.2 = (IntKind.i64.wrap (s7.1 + (1 : Int)))))
else
some false) : Option (Bool)).bind fun j10 =>
(if j10 = true then
(idx s7.2 s7.1).bind fun x11 =>
some (setL s7.2 s7.1 false)
else
some s7.2) : Option (List Bool)).bind fun j8 =>
some (Sum.inl (IntKind.i64.wrap (s7.1 + (1 : Int)), j8))
else
some (Sum.inr s7.2))) big ((0 : Int), y5) : Option (List Bool)).bind fun j6 =>
(M.slices_Contains_bool_bool big j6 false).bind fun y12 =>
(if y12 = true then
(M.peephole_removeOthers big s4 j6).bind fun y13 =>
some (Sum.inl y13)
else
some (Sum.inr s4))

theorem ct_lt {K : List Bool} : ∀ {j : Nat}, (∃ i, i < j ∧ gb K i = false) → ct K j < j
  | 0, ⟨i, h, _⟩ => by omega
  | j + 1, ⟨i, h, hk⟩ => by
    rw [ct]
    by_cases e : i = j
    · subst e
      rw [if_neg (by simp [hk])]
      have := ct_le K i
      omega
    · have := ct_lt (K := K) (j := j) ⟨i, by omega, hk⟩
      split <;> omega

theorem bodyR_wp {code : List Ty} {F : List Int} (f : Fits code F) (hw : ∀ n ∈ code, WF rNode n) : Wp (bodyR code) fun r => (∃ y, r = .inl y ∧ Same code y ∧ y.length < code.length) ∨ r = .inr code := by
  have hle := f.le
  unfold bodyR
  refine Wp.seq _ (reachable_wp f) fun y hy => ?_
  obtain ⟨l, r, rfl⟩ := hy
  have hrl := r.len
  refine Wp.seq (KL code l) ?_ fun K k => ?_
  · refine Wp.loop (fun s : Int × List Bool => ∃ i : Nat, s.1 = i ∧ i ≤ code.length ∧ s.2.length = code.length ∧ (∀ (j : Nat) n, j < i → code[j]? = some n → (gb s.2 j = true ↔ gb l j = true ∧ ¬ nextJ n j)) ∧ ∀ j, i ≤ j → j < code.length → gb s.2 j = gb l j) (fun s => (code.length - s.1).toNat) ⟨0, rfl, Nat.zero_le _, by simp; omega, fun j n h => by omega, fun j _ hj => ?_⟩ (by unfold big; simp only; omega) ?_
    · show gb (l.take code.length) j = gb l j
      unfold gb
      rw [List.getD, List.getD, List.getElem?_take_of_lt hj]
    rintro ⟨_, K⟩ ⟨i, rfl, hi, hKl, hd, hr⟩
    dsimp only at hKl hd hr ⊢
    refine Wp.dec (fun h => ?_) fun h => .some ⟨hKl, fun j n hn => hd j n ?_ hn⟩
    case refine_2 =>
      have := (List.getElem?_eq_some_iff.1 hn).1
      omega
    have hi' : i < code.length := by omega
    have hge := List.getElem?_eq_getElem hi'
    rw [idx_nat hi']
    generalize code[i] = n at hge ⊢
    simp only [Option.bind_some]
    refine Wp.seq (fun o => o.length = code.length ∧ (gb o i = true ↔ gb l i = true ∧ ¬ nextJ n i) ∧ ∀ j, j ≠ i → gb o j = gb K j) ?_ fun o ho => .some ?_
    · refine Wp.seq (fun b => b = decide (nextJ n i)) ?_ fun b hb => ?_
      · rw [wrap_succ (by omega)]
        refine Wp.dec (fun h1 => .some ?_) fun h1 => .some ?_
        · unfold nextJ
          by_cases h2 : (n.2 : Int) = ((i + 1 : Nat) : Int)
          · simp [h1, h2]
          · simp [h1, h2]
        · unfold nextJ
          simp [h1]
      · subst hb
        refine Wp.dec (fun h1 => ?_) fun h1 => .some ⟨hKl, ?_, fun _ _ => rfl⟩
        · rw [gb_idx (by omega)]
          simp only [Option.bind_some]
          refine .some ⟨by simp [setL, hKl], ?_, fun j hj => ?_⟩
          · show gb (K.set i false) i = true ↔ _
            rw [gb_set (by omega), if_pos rfl]
            simp [h1]
          · show gb (K.set i false) j = gb K j
            rw [gb_set (by omega), if_neg hj]
        · rw [hr i (Nat.le_refl _) hi']
          simp [h1]
    · obtain ⟨o1, o2, o3⟩ := ho
      rw [wrap_succ (by omega)]
      refine ⟨⟨i + 1, rfl, hi', o1, fun j m hj hm => ?_, fun j hj hj2 => ?_⟩, by simp only; omega⟩
      · by_cases e : j = i
        · subst e
          rw [hge] at hm
          obtain rfl := Option.some.inj hm
          exact o2
        · show gb o j = true ↔ _
          rw [o3 j e]
          exact hd j m (by omega) hm
      · show gb o j = gb l j
        rw [o3 j (by omega)]
        exact hr j (by omega) hj2
  · refine Wp.seq _ (contains_wp (by rw [k.len]; omega)) fun b hb => ?_
    refine Wp.ite (fun h => ?_) fun _ => .some (.inr rfl)
    have hx := hb h
    rw [k.len] at hx
    refine Wp.seq _ (removeOthers_wp (by omega) k.len fun i n hn hk hj => ?_) fun z hz => .some (.inl ⟨z, rfl, ?_⟩)
    · obtain ⟨s, _⟩ := f.at hn (r.sound i ((k.ok i n hn).1 hk).1)
      rcases s with ⟨c1, t, c2, c3, c4, c5⟩ | ⟨c1, c2, c3, t, c4, c5, c6, c7⟩ | ⟨c1, c2, _⟩
      · exact ⟨t, c2, c4⟩
      · exact ⟨t, c4, c6⟩
      · exact (jop_cases hj).elim (fun e => absurd e c1) (fun e => absurd e c2)
    · obtain ⟨a1, a2⟩ := rem_same f hw r k
      rw [hz]
      refine ⟨a1, ?_⟩
      rw [a2]
      exact ct_lt hx

theorem Remove_wp {code : List Ty} (hl : code.length ≤ 1000) (hw : ∀ n ∈ code, WF rNode n) : Wp (M.peephole_RemoveUnreachable big code) fun y => ((¬ ∃ F, Fits code F) ∧ y = code) ∨ ((∃ F, Fits code F) ∧ Same code y ∧ bodyR y = some (.inr y)) := by
  unfold M.peephole_RemoveUnreachable
  rw [clone_eq hl]
  simp only [Option.bind_some]
  obtain ⟨b, hb, hb2⟩ := accepted_wp code
  rw [hb]
  simp only [Option.bind_some]
  refine Wp.join (Wp.ite (fun hc => .some ?_) fun hc => .some ?_)
  · exact .inl ⟨fun h => (by rw [hb2.2 h] at hc; cases hc), rfl⟩
  have hF : ∃ F, Fits code F := hb2.1 (by simpa using hc)
  have same0 : Same code code := ⟨hF, Nat.le_refl _, hw, fun _ _ _ h => h⟩
  show Wp (Loop bodyR big code) _
  refine Wp.loop (fun s : List Ty => Same code s) (fun s => s.length) same0 (by unfold big; omega) ?_
  intro s hs
  obtain ⟨F, f⟩ := hs.fits
  obtain ⟨r, hr, h⟩ := bodyR_wp f hs.wf
  refine ⟨r, hr, ?_⟩
  rcases h with ⟨y, rfl, h1, h2⟩ | rfl
  · exact ⟨hs.trans h1, h2⟩
  · exact .inr ⟨hF, hs, hr⟩

theorem Remove_again {y : List Ty} (hl : y.length ≤ 1000) (hy : bodyR y = some (.inr y)) : M.peephole_RemoveUnreachable big y = some y := by
  apply Wp.eq
  unfold M.peephole_RemoveUnreachable
  rw [clone_eq hl]
  simp only [Option.bind_some]
  obtain ⟨b, hb, _⟩ := accepted_wp y
  rw [hb]
  simp only [Option.bind_some]
  refine Wp.join (Wp.ite (fun hc => .some rfl) fun hc => .some ?_)
  show Wp (Loop bodyR big y) _
  refine Wp.loop (fun s : List Ty => s = y) (fun _ => 0) rfl (by unfold big; omega) ?_
  rintro _ rfl
  exact ⟨_, hy, rfl⟩
theorem Remove_not {y : List Ty} (hl : y.length ≤ 1000) (hw : ∀ n ∈ y, WF rNode n) (hy : ¬ ∃ F, Fits y F) : M.peephole_RemoveUnreachable big y = some y := by
  obtain ⟨x, hx, h⟩ := Remove_wp hl hw
  rcases h with ⟨_, rfl⟩ | ⟨h, _⟩
  · exact hx
  · exact absurd h hy

theorem Fold_again {y : List Ty} (hl : y.length ≤ 1000) (hy : NoFold y) : M.peephole_FoldConstants big y = some y := by
  apply Wp.eq
  unfold M.peephole_FoldConstants
  rw [clone_eq hl]
  simp only [Option.bind_some]
  obtain ⟨b, hb, _⟩ := accepted_wp y
  rw [hb]
  simp only [Option.bind_some]
  refine Wp.join (Wp.ite (fun hc => .some rfl) fun hc => .some ?_)
  refine Wp.loop (fun s : List Ty => s = y) (fun _ => 0) rfl (by unfold big; omega) ?_
  rintro y rfl
  refine Wp.join (Wp.loop (fun t : Int × List Ty => ∃ i : Nat, t.1 = i ∧ i ≤ y.length ∧ t.2 = y) (fun t => (y.length - t.1).toNat) ⟨0, rfl, Nat.zero_le _, rfl⟩ (by unfold big; simp only; omega) ?_)
  rintro ⟨_, y⟩ ⟨i, rfl, hi, rfl⟩
  dsimp only at hi hl hy ⊢
  refine Wp.dec (fun h => ?_) fun h => .some (.some rfl)
  have hi' : i < y.length := by omega
  obtain ⟨r, hr, hr2⟩ := hy i hi'
  rw [hr]
  simp only [Option.bind_some]
  refine Wp.ite (fun h1 => by rw [hr2] at h1; cases h1) fun h1 => .some ?_
  rw [wrap_succ (by omega)]
  exact ⟨⟨i + 1, rfl, hi', rfl⟩, by simp only; omega⟩
theorem Fold_not {y : List Ty} (hl : y.length ≤ 1000) (hw : ∀ n ∈ y, WF rNode n) (hy : ¬ ∃ F, Fits y F) : M.peephole_FoldConstants big y = some y := by
  obtain ⟨x, hx, h⟩ := Fold_wp hl hw
  rcases h with ⟨_, rfl⟩ | ⟨h, _⟩
  · exact hx
  · exact absurd h hy

theorem eqR_refl (r : Row) (x : r.den) : eqR r x x = true := by unfold eqR; simp
theorem nodes_refl (l : List Ty) (hl : l.length ≤ 1000) : M.same_Nodes big l l = some true := by
  apply Wp.eq
  unfold M.same_Nodes
  refine Wp.ndec (fun h => absurd rfl h) fun _ => ?_
  refine Wp.loop (fun s : Int => ∃ i : Nat, s = i ∧ i ≤ l.length) (fun s => (l.length - s).toNat) ⟨0, rfl, Nat.zero_le _⟩ (by unfold big; omega) ?_
  rintro _ ⟨i, rfl, hi⟩
  refine Wp.seq (fun b => b = true → i < l.length) ?_ fun b hb => ?_
  · exact Wp.dec (fun h => .some fun _ => by omega) fun _ => .some fun h => by cases h
  · refine Wp.ite (fun h => ?_) fun _ => .some rfl
    have hi' := hb h
    rw [idx_nat hi']
    simp only [Option.bind_some, eqR_refl]
    refine .some ?_
    rw [wrap_succ (by omega)]
    exact ⟨⟨i + 1, rfl, hi'⟩, by simp only; omega⟩

theorem awake28 : M.law28_awake big = some true := by show (_ : Option Bool) = _; kernel_rfl

theorem PeepholeStable_true (code : List Ty) (hwc : WF (.slice rNode) code) : M.law28_PeepholeStable big code = some true := by
  apply Wp.eq
  unfold M.law28_PeepholeStable
  rw [awake28]
  simp only [Option.bind_some]
  refine Wp.dec (fun _ => .some rfl) fun hlen => ?_
  have hl : code.length ≤ 1000 := by omega
  have hw := wf_mem hwc
  refine Wp.seq _ (Remove_wp hl hw) fun y hy => ?_
  refine Wp.seq _ (Fold_wp hl hw) fun z hz => ?_
  have hy2 : y.length ≤ 1000 ∧ M.peephole_RemoveUnreachable big y = some y := by
    rcases hy with ⟨h1, rfl⟩ | ⟨_, h1, h2⟩
    · exact ⟨hl, Remove_not hl hw h1⟩
    · have := Nat.le_trans h1.le hl
      exact ⟨this, Remove_again this h2⟩
  have hz2 : z.length ≤ 1000 ∧ M.peephole_FoldConstants big z = some z := by
    rcases hz with ⟨h1, rfl⟩ | ⟨_, h1, h2⟩
    · exact ⟨hl, Fold_not hl hw h1⟩
    · have := Nat.le_trans h1.le hl
      exact ⟨this, Fold_again this h2⟩
  rw [hy2.2, hz2.2]
  simp only [Option.bind_some, nodes_refl y hy2.1, nodes_refl z hz2.1, if_true]
  exact .some rfl

theorem agree_true {a b : List Ty} {env : rEnv.den} (he : EnvOK env) (hw : ∀ n ∈ a, WF rNode n) (hf : ∃ F, Fits a F) (s : Same a b) : M.law28_agree big a b env = some true := by
  obtain ⟨F, f⟩ := hf
  obtain ⟨F', f'⟩ := s.fits
  obtain ⟨r, hr⟩ := f.runs (env := env) a.length 0 [] (by omega) (Nat.zero_le _) f.first
  obtain ⟨x, hx, x1, x2⟩ := Run_runs he hw f.le f.verify hr
  obtain ⟨y, hy, y1, y2⟩ := Run_runs he s.wf f'.le f'.verify (s.runs env he r hr)
  obtain ⟨z, hz, z1⟩ := f'.verify
  have hle := s.le
  unfold M.law28_agree
  rw [hx, hy, hz]
  simp only [Option.bind_some, x1, x2, y1, y2, z1, eqR_refl, decide_true, if_true]
  rw [decide_eq_true (by omega)]

theorem env_ok {env : rEnv.den} (hw : WF rEnv env) (hm : env.2.2.2.1.length ≤ 20) : EnvOK env := by
  obtain ⟨_, _, _, _, _, _, ht⟩ := hw
  exact ⟨by omega, fun t h => (ht t h).2.2.2.1⟩

theorem PeepholePreserves_true (code : List Ty) (env : rEnv.den) (hwc : WF (.slice rNode) code) (hwe : WF rEnv env) : M.law28_PeepholePreserves big code env = some true := by
  apply Wp.eq
  unfold M.law28_PeepholePreserves
  rw [awake28]
  simp only [Option.bind_some]
  refine Wp.seq _ (Verify_fits code) fun v hv => ?_
  refine Wp.seq (fun j => j = false → code.length ≤ 200 ∧ env.2.2.2.1.length ≤ 20 ∧ v.2 = 0) ?_ fun j hj => ?_
  · refine Wp.dec (fun _ => .some fun h => by cases h) fun h1 => ?_
    refine Wp.dec (fun _ => .some fun h => by cases h) fun h2 => ?_
    refine Wp.dec (fun _ => .some fun h => by cases h) fun h3 => ?_
    refine Wp.dec (fun _ => .some fun h => by cases h) fun h4 => ?_
    refine Wp.dec (fun _ => .some fun h => by cases h) fun h5 => .some fun h => ⟨by omega, by omega, by simpa using h⟩
  refine Wp.ite (fun _ => .some rfl) fun hc => ?_
  obtain ⟨h1, h2, h3⟩ := hj (by simpa using hc)
  have hF := hv h3
  have he := env_ok hwe h2
  have hl : code.length ≤ 1000 := by omega
  have hw := wf_mem hwc
  have thr : ∀ {a : List Ty}, a.length ≤ 1000 → (∀ n ∈ a, WF rNode n) → (∃ F, Fits a F) → Wp (M.peephole_ThreadJumps big a) fun y => Same a y := fun {a} hl hw hF => (Thread_wp hl hw).mono fun y hy => by
    rcases hy with ⟨h, _⟩ | ⟨⟨F, f⟩, e1, e2⟩
    · exact absurd hF h
    · exact thread_same f e1 e2
  have fol : ∀ {a : List Ty}, a.length ≤ 1000 → (∀ n ∈ a, WF rNode n) → (∃ F, Fits a F) → Wp (M.peephole_FoldConstants big a) fun y => Same a y := fun {a} hl hw hF => (Fold_wp hl hw).mono fun y hy => by
    rcases hy with ⟨h, _⟩ | ⟨_, h, _⟩
    · exact absurd hF h
    · exact h
  have rmv : ∀ {a : List Ty}, a.length ≤ 1000 → (∀ n ∈ a, WF rNode n) → (∃ F, Fits a F) → Wp (M.peephole_RemoveUnreachable big a) fun y => Same a y := fun {a} hl hw hF => (Remove_wp hl hw).mono fun y hy => by
    rcases hy with ⟨h, _⟩ | ⟨_, h, _⟩
    · exact absurd hF h
    · exact h
  refine Wp.seq (fun b => b = true) ?_ fun b hb => .some hb
  refine Wp.seq _ (fol hl hw hF) fun y1 s1 => ?_
  rw [agree_true he hw hF s1]
  simp only [Option.bind_some, if_true]
  refine Wp.seq _ (thr hl hw hF) fun y2 s2 => ?_
  rw [agree_true he hw hF s2]
  simp only [Option.bind_some, if_true]
  refine Wp.seq _ (rmv hl hw hF) fun y3 s3 => ?_
  rw [agree_true he hw hF s3]
  simp only [Option.bind_some, if_true]
  refine Wp.seq (Same code) ?_ fun y4 s4 => ?_
  · unfold M.peephole_Optimize
    refine Wp.seq _ (fol hl hw hF) fun z1 t1 => ?_
    refine Wp.seq _ (thr (Nat.le_trans t1.le hl) t1.wf t1.fits) fun z2 t2 => ?_
    have t12 := t1.trans t2
    refine Wp.seq _ (rmv (Nat.le_trans t12.le hl) t12.wf t12.fits) fun z3 t3 => .some (t12.trans t3)
  rw [agree_true he hw hF s4]
  exact .some rfl
end L
end Go.Proofs.YtpgggmcpflgniaaDoor
