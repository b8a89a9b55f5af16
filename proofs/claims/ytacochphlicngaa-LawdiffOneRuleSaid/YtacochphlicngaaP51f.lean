/- Chapter 51: LawdiffSymmetry, LawdiffIdentity, LawdiffOneRule (plain laws). -/
import Derived.Test.YtacochphlicngaaP51e
namespace Go.Proofs.Ytacochphlicngaa
open Go Go.RowKit
set_option maxRecDepth 100000
set_option linter.unusedSimpArgs false
namespace L

theorem SmallL.mod {l : Lw} (h : SmallL l) : Mod l := ⟨h.2.2.1, fun s hs => (h.2.2.2.2.2 s hs).2.2.2.1⟩
theorem chg_le {a b : Lw} (ha : SmallL a) (hb : SmallL b) : (chg a.2.2 b.2.2).length ≤ 2300 := by
  have la := flat_len (outF_len (ch := ch1 b.2.2) (ch1_len b.2.2) ha.mod.2) a.2.2.length
  have lb := flat_len (outF_len (ch := ch2 a.2.2) (ch2_len a.2.2) hb.mod.2) b.2.2.length
  have h1 := ha.2.2.1
  have h2 := hb.2.2.1
  unfold chg outL
  rw [List.length_append]
  omega
theorem diff_eq {a b : Lw} (hwa : WF rLaw a) (hwb : WF rLaw b) (ha : SmallL a) (hb : SmallL b) : M.lawdiff_ChangedRules big a b = some (chg a.2.2 b.2.2) := diffA a b hwa hwb ha.mod hb.mod
theorem has_eq (l : List Ch) (z : Ch) (hl : l.length ≤ 2300) : Wp (M.law51_has big l z) fun r => z ∈ l → r = true := by
  unfold M.law51_has
  refine Wp.count (fun s => s) l.length (fun k _ => ∀ j, j < k → ∀ h : j < l.length, l[j] ≠ z) (by omega) rfl (fun j hj => by omega) fun k c hk hs hJ => ?_
  obtain rfl : c = _ := hs
  simp only [Classical.not_not, wp_some, wp_bind, wp_dec, wp_ndec, wp_not, wp_ite, wp_join, joinQ_inl, joinQ_inr, if_true, if_false, ite_true, ite_false, Bool.false_eq_true, Bool.true_eq_false, decide_true, decide_false, decide_eq_decide, true_eq_decide_iff, false_eq_decide_iff, decide_eq_true_eq, decide_eq_false_iff_not, true_implies, false_implies, implies_true, and_true, true_and, and_false, false_and, or_true, true_or, or_false, false_or, not_true_eq_false, not_false_eq_true, Bool.not_true, Bool.not_false, Bool.not_eq_true, Bool.not_eq_false, Bool.not_eq_eq_eq_not, forall_const, reduceCtorEq, countQ_inl, countQ_inr]
  refine ⟨fun hlt => ?_, fun hge h => ?_⟩
  · have hlt : k < l.length := by omega
    simp only [idx_nat hlt, wrapS (m := l.length) (by omega) hlt, Classical.not_not, wp_some, wp_bind, wp_dec, wp_ndec, wp_not, wp_ite, wp_join, joinQ_inl, joinQ_inr, if_true, if_false, ite_true, ite_false, Bool.false_eq_true, Bool.true_eq_false, decide_true, decide_false, decide_eq_decide, true_eq_decide_iff, false_eq_decide_iff, decide_eq_true_eq, decide_eq_false_iff_not, true_implies, false_implies, implies_true, and_true, true_and, and_false, false_and, or_true, true_or, or_false, false_or, not_true_eq_false, not_false_eq_true, Bool.not_true, Bool.not_false, Bool.not_eq_true, Bool.not_eq_false, Bool.not_eq_eq_eq_not, forall_const, reduceCtorEq]
    refine fun h => ⟨hlt, pre_succ hJ fun _ => eqR_false.1 h⟩
  · obtain ⟨j, hj, e⟩ := List.getElem_of_mem h
    exact absurd e (hJ j (by omega) hj)

theorem LawdiffSymmetry_true (a b : Lw) (hwa : WF rLaw a) (hwb : WF rLaw b) : M.law51_LawdiffSymmetry big a b = some true := by
  apply Wp.eq
  unfold M.law51_LawdiffSymmetry
  simp only [awake51, Classical.not_not, wp_some, wp_bind, wp_dec, wp_ndec, wp_not, wp_ite, wp_join, joinQ_inl, joinQ_inr, if_true, if_false, ite_true, ite_false, Bool.false_eq_true, Bool.true_eq_false, decide_true, decide_false, decide_eq_decide, true_eq_decide_iff, false_eq_decide_iff, decide_eq_true_eq, decide_eq_false_iff_not, true_implies, false_implies, implies_true, and_true, true_and, and_false, false_and, or_true, true_or, or_false, false_or, not_true_eq_false, not_false_eq_true, Bool.not_true, Bool.not_false, Bool.not_eq_true, Bool.not_eq_false, Bool.not_eq_eq_eq_not, forall_const, reduceCtorEq]
  refine (smallL_wp a hwa).mono fun r hr => fun h1 => (smallL_wp b hwb).mono fun r' hr' => fun h2 => ?_
  have ha := hr h1
  have hb := hr' h2
  simp only [isValid_eq a hwa ha, isValid_eq b hwb hb, diff_eq hwa hwb ha hb, diff_eq hwb hwa hb ha, Classical.not_not, wp_some, wp_bind, wp_dec, wp_ndec, wp_not, wp_ite, wp_join, joinQ_inl, joinQ_inr, if_true, if_false, ite_true, ite_false, Bool.false_eq_true, Bool.true_eq_false, decide_true, decide_false, decide_eq_decide, true_eq_decide_iff, false_eq_decide_iff, decide_eq_true_eq, decide_eq_false_iff_not, true_implies, false_implies, implies_true, and_true, true_and, and_false, false_and, or_true, true_or, or_false, false_or, not_true_eq_false, not_false_eq_true, Bool.not_true, Bool.not_false, Bool.not_eq_true, Bool.not_eq_false, Bool.not_eq_eq_eq_not, forall_const, reduceCtorEq]
  intro va vb
  have wa : ∀ s ∈ a.2.2, WF rScope s := hwa.2.2.2
  have wb : ∀ s ∈ b.2.2, WF rScope s := hwb.2.2.2
  have hle := chg_le ha hb
  have hle' := chg_le hb ha
  have hlen := chg_len va.good vb.good wa wb
  refine ⟨by omega, fun _ => ?_⟩
  refine Wp.count (fun s => s) (chg a.2.2 b.2.2).length (fun _ _ => True) (by omega) rfl trivial fun k c hk hs _ => ?_
  obtain rfl : c = _ := hs
  simp only [Classical.not_not, wp_some, wp_bind, wp_dec, wp_ndec, wp_not, wp_ite, wp_join, joinQ_inl, joinQ_inr, if_true, if_false, ite_true, ite_false, Bool.false_eq_true, Bool.true_eq_false, decide_true, decide_false, decide_eq_decide, true_eq_decide_iff, false_eq_decide_iff, decide_eq_true_eq, decide_eq_false_iff_not, true_implies, false_implies, implies_true, and_true, true_and, and_false, false_and, or_true, true_or, or_false, false_or, not_true_eq_false, not_false_eq_true, Bool.not_true, Bool.not_false, Bool.not_eq_true, Bool.not_eq_false, Bool.not_eq_eq_eq_not, forall_const, reduceCtorEq, countQ_inl, countQ_inr]
  intro hlt
  have hlt : k < (chg a.2.2 b.2.2).length := by omega
  simp only [idx_nat hlt, wrapS (m := (chg a.2.2 b.2.2).length) (by omega) hlt, Classical.not_not, wp_some, wp_bind, wp_dec, wp_ndec, wp_not, wp_ite, wp_join, joinQ_inl, joinQ_inr, if_true, if_false, ite_true, ite_false, Bool.false_eq_true, Bool.true_eq_false, decide_true, decide_false, decide_eq_decide, true_eq_decide_iff, false_eq_decide_iff, decide_eq_true_eq, decide_eq_false_iff_not, true_implies, false_implies, implies_true, and_true, true_and, and_false, false_and, or_true, true_or, or_false, false_or, not_true_eq_false, not_false_eq_true, Bool.not_true, Bool.not_false, Bool.not_eq_true, Bool.not_eq_false, Bool.not_eq_eq_eq_not, forall_const, reduceCtorEq]
  have hm := chg_flip va.good vb.good wa wb (List.getElem_mem hlt)
  have fin : ∀ z : Ch, z = flipK (chg a.2.2 b.2.2)[k] → Wp (M.law51_has big (chg b.2.2 a.2.2) z) fun r => (r = true ∧ k < (chg a.2.2 b.2.2).length) := fun z e => by
    subst e
    exact (has_eq _ _ hle').mono fun r hr => ⟨hr hm, hlt⟩
  generalize (chg a.2.2 b.2.2)[k] = z at *
  obtain ⟨z1, z2, (z3 : Int)⟩ := z
  refine ⟨fun h => (fin _ ?_).mono fun r hr => ⟨fun g => (by rw [hr.1] at g; cases g), fun _ => hr.2⟩, fun h => ⟨fun h' => (fin _ ?_).mono fun r hr => ⟨fun g => (by rw [hr.1] at g; cases g), fun _ => hr.2⟩, fun h' => (fin _ ?_).mono fun r hr => ⟨fun g => (by rw [hr.1] at g; cases g), fun _ => hr.2⟩⟩⟩
  · have h : z3 = 1 := h
    subst h
    rfl
  · have h : z3 = 2 := h'
    subst h
    rfl
  · have h : ¬ z3 = 1 := h
    have h' : ¬ z3 = 2 := h'
    unfold flipK
    simp only [h, h', if_false]

/-! ## Identity -/
theorem Good.self {l : List Sc} (g : Good l) (hw : ∀ s ∈ l, WF rScope s) : chg l l = [] := by
  apply List.eq_nil_iff_forall_not_mem.2
  intro z hz
  unfold chg at hz
  rcases List.mem_append.1 hz with h | h
  · obtain ⟨s, k, h1, ⟨h2, _⟩ | ⟨t, n, h2, h4, _⟩⟩ := (mem_out1 g).1 h
    · rw [h1] at h2; cases h2
    · rw [h1] at h2
      cases h2
      obtain ⟨i, hi, rfl, _, hk, _⟩ := cp_some h1
      rw [eqv_refl hk (hw _ (List.getElem_mem hi))] at h4
      cases h4
  · obtain ⟨t, n, h1, h2, _⟩ := (mem_out2 g).1 h
    rw [h1] at h2; cases h2
/-- Rules with counterparts: what no change says. -/
theorem no_chg {a b : List Sc} (ga : Good a) (gb : Good b) (h : chg a b = []) : (∀ i, ∀ hi : i < a.length, ∀ k, ∀ hk : k < a[i].2.2.2.2.length, ∃ t n, cp b a[i].1 a[i].2.2.2.2[k].1 = some (t, n) ∧ eqv a[i] k t n = true) ∧ ∀ i, ∀ hi : i < b.length, ∀ k, ∀ hk : k < b[i].2.2.2.2.length, ∃ t n, cp a b[i].1 b[i].2.2.2.2[k].1 = some (t, n) := by
  have no : ∀ z, z ∉ chg a b := fun z hz => by rw [h] at hz; cases hz
  constructor
  · intro i hi k hk
    have hc := cp_at ga hi hk rfl rfl
    cases hb : cp b a[i].1 a[i].2.2.2.2[k].1 with
    | none => exact absurd (List.mem_append_left _ ((mem_out1 (z := (a[i].1, (a[i].2.2.2.2[k].1, (1 : Int)))) ga).2 ⟨_, _, hc, .inl ⟨hb, rfl⟩⟩)) (no _)
    | some tn =>
      obtain ⟨t, n⟩ := tn
      refine ⟨t, n, rfl, ?_⟩
      cases he : eqv a[i] k t n with
      | true => rfl
      | false => exact absurd (List.mem_append_left _ ((mem_out1 (z := (a[i].1, (a[i].2.2.2.2[k].1, (3 : Int)))) ga).2 ⟨_, _, hc, .inr ⟨t, n, hb, he, rfl⟩⟩)) (no _)
  · intro i hi k hk
    have hc := cp_at gb hi hk rfl rfl
    cases ha : cp a b[i].1 b[i].2.2.2.2[k].1 with
    | none => exact absurd (List.mem_append_right _ ((mem_out2 (z := (b[i].1, (b[i].2.2.2.2[k].1, (2 : Int)))) gb).2 ⟨_, _, hc, ha, rfl⟩)) (no _)
    | some tn => exact ⟨tn.1, tn.2, rfl⟩
theorem names_nodup {β : Type} {l : List (ByteArray × β)} (h : Dn l) : (l.map (·.1)).Nodup := by
  rw [List.Nodup, List.pairwise_iff_getElem]
  intro i j hi hj hij e
  rw [List.getElem_map, List.getElem_map] at e
  have := h i j (by simpa using hi) (by simpa using hj) e
  omega
theorem same_len {a b : List Sc} (ga : Good a) (gb : Good b) (hab : a.map iface = b.map iface) (h : chg a b = []) (i : Nat) (hi : i < a.length) (hi' : i < b.length) : a[i].2.2.2.2.length = b[i].2.2.2.2.length := by
  obtain ⟨h1, h2⟩ := no_chg ga gb h
  have hn : (a[i].1 : ByteArray) = b[i].1 := by
    have := congrArg (fun l => (l[i]?).map (·.1)) hab
    simpa [hi, hi', iface] using this
  have at_b : ∀ {t : Sc} {n : Nat} {rn : ByteArray}, cp b a[i].1 rn = some (t, n) → t = b[i] := fun h => by
    obtain ⟨j, hj, rfl, e, _⟩ := cp_some h
    have := gb.dn j i hj hi' (e.trans hn)
    subst this; rfl
  have at_a : ∀ {t : Sc} {n : Nat} {rn : ByteArray}, cp a b[i].1 rn = some (t, n) → t = a[i] := fun h => by
    obtain ⟨j, hj, rfl, e, _⟩ := cp_some h
    have := ga.dn j i hj hi (e.trans hn.symm)
    subst this; rfl
  have l1 := nodup_sub (A := a[i].2.2.2.2.map (·.1)) (B := b[i].2.2.2.2.map (·.1)) (names_nodup (ga.rn _ (List.getElem_mem hi))) fun x hx => by
    obtain ⟨r, hr, rfl⟩ := List.mem_map.1 hx
    obtain ⟨k, hk, rfl⟩ := List.getElem_of_mem hr
    obtain ⟨t, n, hc, _⟩ := h1 i hi k hk
    obtain ⟨_, _, _, _, hn, e⟩ := cp_some hc
    have := at_b hc
    subst this
    exact List.mem_map.2 ⟨_, List.getElem_mem hn, e⟩
  have l2 := nodup_sub (A := b[i].2.2.2.2.map (·.1)) (B := a[i].2.2.2.2.map (·.1)) (names_nodup (gb.rn _ (List.getElem_mem hi'))) fun x hx => by
    obtain ⟨r, hr, rfl⟩ := List.mem_map.1 hx
    obtain ⟨k, hk, rfl⟩ := List.getElem_of_mem hr
    obtain ⟨t, n, hc⟩ := h2 i hi' k hk
    obtain ⟨_, _, _, _, hn, e⟩ := cp_some hc
    have := at_a hc
    subst this
    exact List.mem_map.2 ⟨_, List.getElem_mem hn, e⟩
  rw [List.length_map, List.length_map] at l1 l2
  omega
theorem nodes_true {x y : List Ty} (h : x = y) (hl : x.length ≤ maxLen) : M.same_Nodes big x y = some true := by
  obtain ⟨r, e, hr⟩ := same_Nodes_P x y hl
  rw [e, hr.2 h]
theorem LawdiffIdentity_true (a b : Lw) (hwa : WF rLaw a) (hwb : WF rLaw b) : M.law51_LawdiffIdentity big a b = some true := by
  apply Wp.eq
  have wa : ∀ s ∈ a.2.2, WF rScope s := hwa.2.2.2
  have wb : ∀ s ∈ b.2.2, WF rScope s := hwb.2.2.2
  obtain ⟨r1, e1, h1⟩ := SI_A a a hwa
  have h1 := h1.2 ⟨rfl, rfl, rfl⟩
  subst h1
  obtain ⟨r2, e2, h2⟩ := SI_A a b hwa
  unfold M.law51_LawdiffIdentity
  simp only [awake51, e1, e2, Classical.not_not, wp_some, wp_bind, wp_dec, wp_ndec, wp_not, wp_ite, wp_join, joinQ_inl, joinQ_inr, if_true, if_false, ite_true, ite_false, Bool.false_eq_true, Bool.true_eq_false, decide_true, decide_false, decide_eq_decide, true_eq_decide_iff, false_eq_decide_iff, decide_eq_true_eq, decide_eq_false_iff_not, true_implies, false_implies, implies_true, and_true, true_and, and_false, false_and, or_true, true_or, or_false, false_or, not_true_eq_false, not_false_eq_true, Bool.not_true, Bool.not_false, Bool.not_eq_true, Bool.not_eq_false, Bool.not_eq_eq_eq_not, forall_const, reduceCtorEq]
  refine (smallL_wp a hwa).mono fun r hr => fun g1 => (smallL_wp b hwb).mono fun r' hr' => fun g2 => ?_
  have ha := hr g1
  have hb := hr' g2
  simp only [isValid_eq a hwa ha, isValid_eq b hwb hb, diff_eq hwa hwa ha ha, diff_eq hwa hwb ha hb, Classical.not_not, wp_some, wp_bind, wp_dec, wp_ndec, wp_not, wp_ite, wp_join, joinQ_inl, joinQ_inr, if_true, if_false, ite_true, ite_false, Bool.false_eq_true, Bool.true_eq_false, decide_true, decide_false, decide_eq_decide, true_eq_decide_iff, false_eq_decide_iff, decide_eq_true_eq, decide_eq_false_iff_not, true_implies, false_implies, implies_true, and_true, true_and, and_false, false_and, or_true, true_or, or_false, false_or, not_true_eq_false, not_false_eq_true, Bool.not_true, Bool.not_false, Bool.not_eq_true, Bool.not_eq_false, Bool.not_eq_eq_eq_not, forall_const, reduceCtorEq]
  intro va
  have hself := va.good.self wa
  simp only [hself, Classical.not_not, wp_some, wp_bind, wp_dec, wp_ndec, wp_not, wp_ite, wp_join, joinQ_inl, joinQ_inr, if_true, if_false, ite_true, ite_false, Bool.false_eq_true, Bool.true_eq_false, decide_true, decide_false, decide_eq_decide, true_eq_decide_iff, false_eq_decide_iff, decide_eq_true_eq, decide_eq_false_iff_not, true_implies, false_implies, implies_true, and_true, true_and, and_false, false_and, or_true, true_or, or_false, false_or, not_true_eq_false, not_false_eq_true, Bool.not_true, Bool.not_false, Bool.not_eq_true, Bool.not_eq_false, Bool.not_eq_eq_eq_not, forall_const, reduceCtorEq]
  refine ⟨fun h => by simp at h, fun _ vb hsi hch => ?_⟩
  have hsi := h2.1 hsi
  have hch : chg a.2.2 b.2.2 = [] := List.length_eq_zero_iff.1 (by omega)
  have h5 := ha.2.2.1
  have hll : a.2.2.length = b.2.2.length := by simpa using congrArg List.length hsi.2.2
  refine Wp.count (fun s => s) a.2.2.length (fun _ _ => True) (by omega) rfl trivial fun i c hi hs _ => ?_
  obtain rfl : c = _ := hs
  simp only [Classical.not_not, wp_some, wp_bind, wp_dec, wp_ndec, wp_not, wp_ite, wp_join, joinQ_inl, joinQ_inr, if_true, if_false, ite_true, ite_false, Bool.false_eq_true, Bool.true_eq_false, decide_true, decide_false, decide_eq_decide, true_eq_decide_iff, false_eq_decide_iff, decide_eq_true_eq, decide_eq_false_iff_not, true_implies, false_implies, implies_true, and_true, true_and, and_false, false_and, or_true, true_or, or_false, false_or, not_true_eq_false, not_false_eq_true, Bool.not_true, Bool.not_false, Bool.not_eq_true, Bool.not_eq_false, Bool.not_eq_eq_eq_not, forall_const, reduceCtorEq, countQ_inl, countQ_inr]
  intro hlt
  have hlt : i < a.2.2.length := by omega
  have hlt' : i < b.2.2.length := by omega
  have hsl := same_len va.good vb.good hsi.2.2 hch i hlt hlt'
  obtain ⟨hn1, _⟩ := no_chg va.good vb.good hch
  have h60 := ha.mod.2 _ (List.getElem_mem hlt)
  have hif : iface a.2.2[i] = iface b.2.2[i] := by
    have := congrArg (fun l => l[i]?) hsi.2.2
    simpa [hlt, hlt'] using this
  simp only [idx_nat hlt, idx_nat hlt', Classical.not_not, wp_some, wp_bind, wp_dec, wp_ndec, wp_not, wp_ite, wp_join, joinQ_inl, joinQ_inr, if_true, if_false, ite_true, ite_false, Bool.false_eq_true, Bool.true_eq_false, decide_true, decide_false, decide_eq_decide, true_eq_decide_iff, false_eq_decide_iff, decide_eq_true_eq, decide_eq_false_iff_not, true_implies, false_implies, implies_true, and_true, true_and, and_false, false_and, or_true, true_or, or_false, false_or, not_true_eq_false, not_false_eq_true, Bool.not_true, Bool.not_false, Bool.not_eq_true, Bool.not_eq_false, Bool.not_eq_eq_eq_not, forall_const, reduceCtorEq]
  refine ⟨fun h => absurd (by omega) h, fun _ => ?_⟩
  refine Wp.count (fun s => s) a.2.2[i].2.2.2.2.length (fun _ _ => True) (by omega) rfl trivial fun k c hk hs _ => ?_
  obtain rfl : c = _ := hs
  simp only [Classical.not_not, wp_some, wp_bind, wp_dec, wp_ndec, wp_not, wp_ite, wp_join, joinQ_inl, joinQ_inr, if_true, if_false, ite_true, ite_false, Bool.false_eq_true, Bool.true_eq_false, decide_true, decide_false, decide_eq_decide, true_eq_decide_iff, false_eq_decide_iff, decide_eq_true_eq, decide_eq_false_iff_not, true_implies, false_implies, implies_true, and_true, true_and, and_false, false_and, or_true, true_or, or_false, false_or, not_true_eq_false, not_false_eq_true, Bool.not_true, Bool.not_false, Bool.not_eq_true, Bool.not_eq_false, Bool.not_eq_eq_eq_not, forall_const, reduceCtorEq, countQ_inl, countQ_inr, wrapS (m := a.2.2.length) (by omega) hlt]
  refine ⟨fun hkl => ?_, fun _ => hlt⟩
  have hkl : k < a.2.2[i].2.2.2.2.length := by omega
  obtain ⟨t, n, hc, he⟩ := hn1 i hlt k hkl
  have hr := (wa _ (List.getElem_mem hlt)).2.2.2.2.2 _ (List.getElem_mem hkl)
  obtain ⟨j, hj, rfl, e1, hn, e2⟩ := cp_some hc
  obtain rfl : j = i := vb.good.dn j i hj hlt' (e1.trans (by have := congrArg (·.1) hif; exact this))
  have hE := (eqv_iff hkl hn (wa _ (List.getElem_mem hlt))).1 he
  have ht := (wb _ (List.getElem_mem hj)).2.2.2.2.2 _ (List.getElem_mem hn)
  have hdef : (b.2.2[j].2.2.2.2[n].2.1 : Int) = a.2.2[j].2.2.2.2[k].2.1 := by
    have d1 := va.good.df _ (List.getElem_mem hlt) _ (List.getElem_mem hkl)
    have d2 := vb.good.df _ (List.getElem_mem hj) _ (List.getElem_mem hn)
    have hds : a.2.2[j].2.2.2.1 = b.2.2[j].2.2.2.1 := congrArg (·.2.2.2) hif
    have hfn := va.good.fn _ (List.getElem_mem hlt)
    have hname : nameAt a.2.2[j].2.2.2.1 a.2.2[j].2.2.2.2[k].2.1 = nameAt b.2.2[j].2.2.2.1 b.2.2[j].2.2.2.2[n].2.1 := congrArg (·.1) hE.1
    obtain ⟨p, hp⟩ := Int.eq_ofNat_of_zero_le d1.1
    obtain ⟨q, hq⟩ := Int.eq_ofNat_of_zero_le d2.1
    have hp1 : p < a.2.2[j].2.2.2.1.length := Int.ofNat_lt.1 (hp ▸ d1.2)
    have hq1 : q < b.2.2[j].2.2.2.1.length := Int.ofNat_lt.1 (hq ▸ d2.2)
    rw [hp, hq, nameAt_in hp1, nameAt_in hq1] at hname
    have := hfn p q hp1 (by rw [hds]; exact hq1) (by simpa [hds] using hname)
    rw [hp, hq, this]
  have hpr : (b.2.2[j].2.2.2.2[n].2.2.2.1 : Int) = a.2.2[j].2.2.2.2[k].2.2.2.1 := (congrArg (·.2.2.1) hE.1).symm
  have hva : b.2.2[j].2.2.2.2[n].2.2.2.2.1 = a.2.2[j].2.2.2.2[k].2.2.2.2.1 := (congrArg (·.2.2.2.1) hE.1).symm
  have hso : (b.2.2[j].2.2.2.2[n].2.2.2.2.2.2.2 : ByteArray) = a.2.2[j].2.2.2.2[k].2.2.2.2.2.2.2 := (congrArg (·.2.2.2.2) hE.1).symm
  have hg := nodes_true hE.2.1.symm ht.2.2.2.2.2.1.1
  have hv := nodes_true hE.2.2.symm ht.2.2.2.2.2.2.1.1
  simp only [idx_nat hlt, idx_nat hkl, Counterpart_eq b hwb, hc, cpOut, idx_nat hn, hg, hv, hdef, hpr, hva, hso, eqT, wrapS (m := a.2.2[j].2.2.2.2.length) (by omega) hkl, Classical.not_not, wp_some, wp_bind, wp_dec, wp_ndec, wp_not, wp_ite, wp_join, joinQ_inl, joinQ_inr, if_true, if_false, ite_true, ite_false, Bool.false_eq_true, Bool.true_eq_false, decide_true, decide_false, decide_eq_decide, true_eq_decide_iff, false_eq_decide_iff, decide_eq_true_eq, decide_eq_false_iff_not, true_implies, false_implies, implies_true, and_true, true_and, and_false, false_and, or_true, true_or, or_false, false_or, not_true_eq_false, not_false_eq_true, Bool.not_true, Bool.not_false, Bool.not_eq_true, Bool.not_eq_false, Bool.not_eq_eq_eq_not, forall_const, reduceCtorEq]
  exact hkl
end L
end Go.Proofs.Ytacochphlicngaa
