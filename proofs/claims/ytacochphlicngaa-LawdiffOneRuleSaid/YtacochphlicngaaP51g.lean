/- Chapter 51: LawdiffOneRule (plain law). -/
import Derived.Test.YtacochphlicngaaP51f
namespace Go.Proofs.Ytacochphlicngaa
open Go Go.RowKit
set_option maxRecDepth 100000
set_option linter.unusedSimpArgs false
namespace L

def newR (r : Ru) (src : ByteArray) : Ru := (r.1, (r.2.1, (r.2.2.1, (r.2.2.2.1, (r.2.2.2.2.1, (r.2.2.2.2.2.1, (r.2.2.2.2.2.2.1, src)))))))
def newS (s : Sc) (k : Nat) (r : Ru) : Sc := (s.1, (s.2.1, (s.2.2.1, (s.2.2.2.1, s.2.2.2.2.set k r))))
/-- Two lists of scopes with the same names, whose rules are the same but for the sources of one rule. -/
structure One (A B : List Sc) (i k : Nat) (src : ByteArray) : Prop where
  len : B.length = A.length
  nm : ∀ j, ∀ ha : j < A.length, ∀ hb : j < B.length, (B[j].1 : ByteArray) = A[j].1
  dn : ∀ j, ∀ ha : j < A.length, ∀ hb : j < B.length, B[j].2.2.2.1 = A[j].2.2.2.1
  rl : ∀ j, ∀ ha : j < A.length, ∀ hb : j < B.length, B[j].2.2.2.2.length = A[j].2.2.2.2.length
  ru : ∀ j, ∀ ha : j < A.length, ∀ hb : j < B.length, ∀ m, ∀ hm : m < A[j].2.2.2.2.length, ∀ hm' : m < B[j].2.2.2.2.length, ¬ (j = i ∧ m = k) → B[j].2.2.2.2[m] = A[j].2.2.2.2[m]
  rk : ∀ ha : i < A.length, ∀ hb : i < B.length, ∀ hm : k < A[i].2.2.2.2.length, ∀ hm' : k < B[i].2.2.2.2.length, B[i].2.2.2.2[k] = newR A[i].2.2.2.2[k] src
theorem One.of {A : List Sc} {i k : Nat} {src : ByteArray} (hi : i < A.length) (hk : k < A[i].2.2.2.2.length) : One A (A.set i (newS A[i] k (newR A[i].2.2.2.2[k] src))) i k src := by
  have key : ∀ j, ∀ hb : j < (A.set i (newS A[i] k (newR A[i].2.2.2.2[k] src))).length, (A.set i (newS A[i] k (newR A[i].2.2.2.2[k] src)))[j] = if i = j then newS A[i] k (newR A[i].2.2.2.2[k] src) else A[j]'(by simpa using hb) := fun j hb => List.getElem_set ..
  refine ⟨by simp, fun j ha hb => ?_, fun j ha hb => ?_, fun j ha hb => ?_, fun j ha hb m hm hm' h => ?_, fun ha hb hm hm' => ?_⟩
  · rw [key]; split
    · subst_vars; rfl
    · rfl
  · rw [key]; split
    · subst_vars; rfl
    · rfl
  · rw [key]; split
    · subst_vars; exact List.length_set
    · rfl
  · simp only [key]
    by_cases hij : i = j
    · subst hij
      simp only [if_true]
      exact List.getElem_set_ne (fun e => h ⟨rfl, e.symm⟩) _
    · simp only [hij, if_false]
  · simp only [key, if_true]
    exact List.getElem_set_self _
theorem One.name {A B : List Sc} {i k : Nat} {src : ByteArray} (o : One A B i k src) (j : Nat) (ha : j < A.length) (hb : j < B.length) (m : Nat) (hm : m < A[j].2.2.2.2.length) (hm' : m < B[j].2.2.2.2.length) : (B[j].2.2.2.2[m].1 : ByteArray) = A[j].2.2.2.2[m].1 ∧ (B[j].2.2.2.2[m].2.1 : Int) = A[j].2.2.2.2[m].2.1 := by
  by_cases h : j = i ∧ m = k
  · obtain ⟨rfl, rfl⟩ := h
    rw [o.rk ha hb hm hm']
    exact ⟨rfl, rfl⟩
  · rw [o.ru j ha hb m hm hm' h]
    exact ⟨rfl, rfl⟩
theorem One.good {A B : List Sc} {i k : Nat} {src : ByteArray} (o : One A B i k src) (g : Good A) : Good B := by
  refine ⟨fun p q hp hq e => ?_, fun s hs p q hp hq e => ?_, fun s hs => ?_, fun s hs r hr => ?_⟩
  · have hp' : p < A.length := by rw [← o.len]; exact hp
    have hq' : q < A.length := by rw [← o.len]; exact hq
    exact g.dn p q hp' hq' (by rw [← o.nm p hp' hp, ← o.nm q hq' hq, e])
  · obtain ⟨j, hj, rfl⟩ := List.getElem_of_mem hs
    have hj' : j < A.length := by rw [← o.len]; exact hj
    have hl := o.rl j hj' hj
    exact g.rn _ (List.getElem_mem hj') p q (by omega) (by omega) (by rw [← (o.name j hj' hj p (by omega) hp).1, ← (o.name j hj' hj q (by omega) hq).1, e])
  · obtain ⟨j, hj, rfl⟩ := List.getElem_of_mem hs
    have hj' : j < A.length := by rw [← o.len]; exact hj
    rw [o.dn j hj' hj]
    exact g.fn _ (List.getElem_mem hj')
  · obtain ⟨j, hj, rfl⟩ := List.getElem_of_mem hs
    have hj' : j < A.length := by rw [← o.len]; exact hj
    have hl := o.rl j hj' hj
    obtain ⟨m, hm, rfl⟩ := List.getElem_of_mem hr
    rw [(o.name j hj' hj m (by omega) hm).2, o.dn j hj' hj]
    exact g.df _ (List.getElem_mem hj') _ (List.getElem_mem (by omega))
theorem nameAt_eq {β γ : Type} {l : List (ByteArray × β)} {l' : List (ByteArray × γ)} (hl : l.length = l'.length) (h : ∀ m, ∀ hm : m < l.length, ∀ hm' : m < l'.length, l[m].1 = l'[m].1) (d : Int) : nameAt l d = nameAt l' d := by
  unfold nameAt
  split
  · rcases Nat.lt_or_ge d.toNat l.length with h1 | h1
    · rw [List.getElem?_eq_getElem h1, List.getElem?_eq_getElem (show d.toNat < l'.length by omega)]
      exact h _ h1 (by omega)
    · rw [List.getElem?_eq_none h1, List.getElem?_eq_none (by omega)]
      rfl
  · rfl
theorem One.eqv {A B : List Sc} {i k : Nat} {src : ByteArray} (o : One A B i k src) (j : Nat) (ha : j < A.length) (hb : j < B.length) (m : Nat) (hm : m < A[j].2.2.2.2.length) (hm' : m < B[j].2.2.2.2.length) (hw : WF rScope A[j]) : L.eqv A[j] m B[j] m = true ↔ ¬ (j = i ∧ m = k ∧ (A[j].2.2.2.2[m].2.2.2.2.2.2.2 : ByteArray) ≠ src) := by
  rw [eqv_iff hm hm' hw]
  have hpar : ∀ d, nameAt A[j].2.2.2.2 d = nameAt B[j].2.2.2.2 d := nameAt_eq (o.rl j ha hb).symm fun p hp hp' => (o.name j ha hb p hp hp').1.symm
  by_cases h : j = i ∧ m = k
  · obtain ⟨rfl, rfl⟩ := h
    rw [o.rk ha hb hm hm']
    unfold props newR
    dsimp only
    rw [o.dn j ha hb, hpar]
    simp only [Prod.mk.injEq, true_and, and_true]
    constructor
    · exact fun h g => g h
    · exact fun h => Classical.byContradiction fun g => h g
  · rw [o.ru j ha hb m hm hm' h]
    unfold props
    rw [o.dn j ha hb, hpar]
    exact ⟨fun _ g => h ⟨g.1, g.2.1⟩, fun _ => ⟨rfl, rfl, rfl⟩⟩
theorem One.cp {A B : List Sc} {i k : Nat} {src : ByteArray} (o : One A B i k src) (g : Good A) {sn rn : ByteArray} {s : Sc} {m : Nat} (h : L.cp A sn rn = some (s, m)) : ∃ j, ∃ ha : j < A.length, ∃ hb : j < B.length, A[j] = s ∧ m < A[j].2.2.2.2.length ∧ m < B[j].2.2.2.2.length ∧ L.cp B sn rn = some (B[j], m) := by
  obtain ⟨j, hj, rfl, h1, hm, h2⟩ := cp_some h
  have hb : j < B.length := by rw [o.len]; exact hj
  have hm' : m < B[j].2.2.2.2.length := by rw [o.rl j hj hb]; exact hm
  refine ⟨j, hj, hb, rfl, hm, hm', cp_at (o.good g) hb hm' ((o.nm j hj hb).trans h1) ((o.name j hj hb m hm hm').1.trans h2)⟩
theorem One.mem {A B : List Sc} {i k : Nat} {src : ByteArray} (o : One A B i k src) (g : Good A) (hw : ∀ s ∈ A, WF rScope s) (hi : i < A.length) (hk : k < A[i].2.2.2.2.length) {z : Ch} : z ∈ chg A B ↔ z = (A[i].1, (A[i].2.2.2.2[k].1, (3 : Int))) ∧ (A[i].2.2.2.2[k].2.2.2.2.2.2.2 : ByteArray) ≠ src := by
  unfold chg
  rw [List.mem_append, mem_out1 g, mem_out2 (o.good g)]
  constructor
  · rintro (⟨s, m, h1, h⟩ | ⟨t, n, h1, h2, _⟩)
    · obtain ⟨j, ha, hb, rfl, hm, hm', hc⟩ := o.cp g h1
      rcases h with ⟨h2, _⟩ | ⟨t, n, h2, h4, h3⟩
      · rw [hc] at h2; cases h2
      · rw [hc] at h2
        cases h2
        have hne := mt (o.eqv j ha hb m hm hm' (hw _ (List.getElem_mem ha))).2 (by rw [h4]; simp)
        obtain ⟨rfl, rfl, hs⟩ := Classical.not_not.1 hne
        obtain ⟨j', hj', e, e1, hm2, e2⟩ := cp_some h1
        obtain ⟨z1, z2, (z3 : Int)⟩ := z
        have e1 : A[j].1 = z1 := e1
        have e2 : A[j].2.2.2.2[m].1 = z2 := e2
        have h3 : z3 = 3 := h3
        subst h3 e1 e2
        exact ⟨rfl, hs⟩
    · exfalso
      obtain ⟨j, hj, rfl, e1, hn, e2⟩ := cp_some h1
      have ha : j < A.length := by rw [← o.len]; exact hj
      have hm : n < A[j].2.2.2.2.length := by rw [← o.rl j ha hj]; exact hn
      rw [cp_at g ha hm ((o.nm j ha hj).symm.trans e1) ((o.name j ha hj n hm hn).1.symm.trans e2)] at h2
      cases h2
  · rintro ⟨rfl, hs⟩
    left
    have hc := cp_at g hi hk rfl rfl
    obtain ⟨j, ha, hb, e, hm, hm', hc'⟩ := o.cp g hc
    obtain rfl : j = i := g.dn j i ha hi (by rw [e])
    refine ⟨A[j], k, hc, .inr ⟨B[j], k, hc', ?_, rfl⟩⟩
    have := mt (o.eqv j ha hb k hm hm' (hw _ (List.getElem_mem ha))).1 (fun h => h ⟨rfl, rfl, hs⟩)
    simpa using this
theorem One.chg {A B : List Sc} {i k : Nat} {src : ByteArray} (o : One A B i k src) (g : Good A) (hw : ∀ s ∈ A, WF rScope s) (hi : i < A.length) (hk : k < A[i].2.2.2.2.length) : L.chg A B = if (A[i].2.2.2.2[k].2.2.2.2.2.2.2 : ByteArray) = src then [] else [(A[i].1, (A[i].2.2.2.2[k].1, (3 : Int)))] := by
  have hm := fun z => o.mem g hw hi hk (z := z)
  have hn := chg_nodup g (o.good g)
  generalize L.chg A B = l at *
  split
  · rename_i h
    exact List.eq_nil_iff_forall_not_mem.2 fun z hz => ((hm z).1 hz).2 h
  · rename_i h
    match l, hm, hn with
    | [], hm, _ => exact absurd ((hm _).2 ⟨rfl, h⟩) (by simp)
    | [x], hm, _ => rw [((hm x).1 (by simp)).1]
    | x :: y :: l, hm, hn =>
      have e1 := ((hm x).1 (by simp)).1
      have e2 := ((hm y).1 (by simp)).1
      rw [e1, e2] at hn
      exact absurd hn (by simp)

theorem remA_nat {a m : Nat} (h : 0 < m) : remA (a : Int) (m : Int) = some ((a % m : Nat) : Int) := by
  unfold remA
  rw [if_neg (by omega)]
  congr 1
theorem smallL_set {a : Lw} (h : SmallL a) {i k : Nat} (hi : i < a.2.2.length) (hk : k < a.2.2[i].2.2.2.2.length) {src : ByteArray} (hs : src.size ≤ 80) : SmallL (a.1, (a.2.1, a.2.2.set i (newS a.2.2[i] k (newR a.2.2[i].2.2.2.2[k] src)))) := by
  refine ⟨h.1, h.2.1, by simpa using h.2.2.1, h.2.2.2.1, h.2.2.2.2.1, fun s hsm => ?_⟩
  rcases List.mem_or_eq_of_mem_set hsm with hsm | rfl
  · exact h.2.2.2.2.2 s hsm
  · obtain ⟨g1, g2, g3, g4, g5, g6, g7⟩ := h.2.2.2.2.2 _ (List.getElem_mem hi)
    refine ⟨g1, g2, g3, by simpa [newS] using g4, g5, g6, fun r hr => ?_⟩
    rcases List.mem_or_eq_of_mem_set hr with hr | rfl
    · exact g7 r hr
    · obtain ⟨p1, p2, p3, p4⟩ := g7 _ (List.getElem_mem hk)
      exact ⟨p1, hs, p3, p4⟩
theorem wf_set {a : Lw} (h : WF rLaw a) {i k : Nat} (hi : i < a.2.2.length) (hk : k < a.2.2[i].2.2.2.2.length) {src : ByteArray} (hs : WF .str src) : WF rLaw (a.1, (a.2.1, a.2.2.set i (newS a.2.2[i] k (newR a.2.2[i].2.2.2.2[k] src)))) := by
  refine ⟨h.1, h.2.1, by simpa using h.2.2.1, fun s hsm => ?_⟩
  rcases List.mem_or_eq_of_mem_set hsm with hsm | rfl
  · exact h.2.2.2 s hsm
  · obtain ⟨g1, g2, g3, g4, g5, g6⟩ := h.2.2.2 _ (List.getElem_mem hi)
    refine ⟨g1, g2, g3, g4, by simpa [newS] using g5, fun r hr => ?_⟩
    rcases List.mem_or_eq_of_mem_set hr with hr | rfl
    · exact g6 r hr
    · obtain ⟨p1, p2, p3, p4, p5, p6, p7, _⟩ := g6 _ (List.getElem_mem hk)
      exact ⟨p1, p2, p3, p4, p5, p6, p7, hs⟩

theorem LawdiffOneRule_true (a : Lw) (sc ru : Int) (src : ByteArray) (hwa : WF rLaw a) (h1 : WF (.int .u8) sc) (h2 : WF (.int .u8) ru) (hs : WF .str src) : M.law51_LawdiffOneRule big a sc ru src = some true := by
  apply Wp.eq
  unfold M.law51_LawdiffOneRule
  simp only [awake51, Classical.not_not, wp_some, wp_bind, wp_dec, wp_ndec, wp_not, wp_ite, wp_join, joinQ_inl, joinQ_inr, if_true, if_false, ite_true, ite_false, Bool.false_eq_true, Bool.true_eq_false, decide_true, decide_false, decide_eq_decide, true_eq_decide_iff, false_eq_decide_iff, decide_eq_true_eq, decide_eq_false_iff_not, true_implies, false_implies, implies_true, and_true, true_and, and_false, false_and, or_true, true_or, or_false, false_or, not_true_eq_false, not_false_eq_true, Bool.not_true, Bool.not_false, Bool.not_eq_true, Bool.not_eq_false, Bool.not_eq_eq_eq_not, forall_const, reduceCtorEq]
  refine (smallL_wp a hwa).mono fun r hr => fun g1 => ?_
  have ha := hr g1
  simp only [isValid_eq a hwa ha, Classical.not_not, wp_some, wp_bind, wp_dec, wp_ndec, wp_not, wp_ite, wp_join, joinQ_inl, joinQ_inr, if_true, if_false, ite_true, ite_false, Bool.false_eq_true, Bool.true_eq_false, decide_true, decide_false, decide_eq_decide, true_eq_decide_iff, false_eq_decide_iff, decide_eq_true_eq, decide_eq_false_iff_not, true_implies, false_implies, implies_true, and_true, true_and, and_false, false_and, or_true, true_or, or_false, false_or, not_true_eq_false, not_false_eq_true, Bool.not_true, Bool.not_false, Bool.not_eq_true, Bool.not_eq_false, Bool.not_eq_eq_eq_not, forall_const, reduceCtorEq]
  intro va hne hsz
  obtain ⟨sn, rfl⟩ := Int.eq_ofNat_of_zero_le h1.1
  obtain ⟨rn, rfl⟩ := Int.eq_ofNat_of_zero_le h2.1
  have hn5 := ha.2.2.1
  have hi : sn % a.2.2.length < a.2.2.length := Nat.mod_lt _ (by omega)
  have hu1 : (sn : Int) ≤ 255 := h1.2
  have hu2 : (rn : Int) ≤ 255 := h2.2
  rw [wrap_nat (by omega), wrap_nat (by omega), remA_nat (by omega)]
  generalize sn % a.2.2.length = i at *
  refine .some ?_
  rw [idx_nat hi]
  refine .some fun hne2 => ?_
  have h60 := ha.mod.2 _ (List.getElem_mem hi)
  have hk : rn % a.2.2[i].2.2.2.2.length < a.2.2[i].2.2.2.2.length := Nat.mod_lt _ (by omega)
  rw [remA_nat (by omega)]
  generalize rn % a.2.2[i].2.2.2.2.length = k at *
  refine .some ?_
  rw [idx_nat hk]
  refine .some ?_
  rw [appA_some (by simp; omega), List.nil_append]
  refine .some ?_
  rw [idx_nat hk]
  refine .some ?_
  rw [appA_some (by simp; omega), List.nil_append]
  refine .some ?_
  rw [idx_nat hi]
  refine .some ?_
  have hB : setL a.2.2 (i : Int) (a.2.2[i].1, (a.2.2[i].2.1, (a.2.2[i].2.2.1, (a.2.2[i].2.2.2.1, setL a.2.2[i].2.2.2.2 (k : Int) (newR a.2.2[i].2.2.2.2[k] src))))) = a.2.2.set i (newS a.2.2[i] k (newR a.2.2[i].2.2.2.2[k] src)) := by
    unfold setL newS
    rw [Int.toNat_natCast, Int.toNat_natCast]
  have hd := diff_eq (b := (a.1, (a.2.1, a.2.2.set i (newS a.2.2[i] k (newR a.2.2[i].2.2.2.2[k] src))))) hwa (wf_set hwa hi hk hs) ha (smallL_set ha hi hk (by omega))
  rw [← hB] at hd
  have hdd : M.lawdiff_ChangedRules big a (a.1, (a.2.1, setL a.2.2 (i : Int) (a.2.2[i].1, (a.2.2[i].2.1, (a.2.2[i].2.2.1, (a.2.2[i].2.2.2.1, setL a.2.2[i].2.2.2.2 (k : Int) (newR a.2.2[i].2.2.2.2[k] src))))))) = some (L.chg a.2.2 (a.2.2.set i (newS a.2.2[i] k (newR a.2.2[i].2.2.2.2[k] src)))) := by
    rw [hd, hB]
  refine ⟨_, hdd, ?_⟩
  rw [(One.of hi hk).chg va.good hwa.2.2.2 hi hk]
  refine ⟨fun e => ?_, fun e => ?_⟩
  · rw [if_pos e.symm]
    exact fun h => h rfl
  · rw [if_neg fun h => e h.symm]
    refine ⟨fun _ => ?_, fun h => h rfl⟩
    have hg : idx (setL a.2.2[i].2.2.2.2 (k : Int) (newR a.2.2[i].2.2.2.2[k] src)) (k : Int) = some (newR a.2.2[i].2.2.2.2[k] src) := by
      unfold setL
      rw [Int.toNat_natCast, idx_nat (by simpa using hk), List.getElem_set_self]
    rw [idx_zero]
    refine .some ⟨_, hg, fun h => ?_⟩
    exact absurd rfl (eqR_false.1 h)
end L
end Go.Proofs.Ytacochphlicngaa
