/- Chapter 17: LawWellTyped (plain law): the rules of a valid law have the types of their definitions, and every scope has an order of all its definitions. -/
import Derived.Test.YtjeeligfdpociabGreatRN
import Derived.Test.YtjeeligfdpociabGreatRZ
namespace Go.Proofs.YtjeeligfdpociabGreat
open Go Go.RowKit
set_option maxRecDepth 100000
set_option linter.unusedSimpArgs false
namespace L

theorem awakeW : M.law17_awake big = some true := by kernel_rfl
theorem sig_at (l : Lw) (hm : Mild l) (hsm : SmallL l) (k : Nat) (hk : k < l.2.2.length) : M.law_Signature big l (k : Int) = some ((sigS l l.2.2[k]).2.2.2.2.2, (sigS l l.2.2[k]).1, (sigS l l.2.2[k]).2.1, (sigS l l.2.2[k]).2.2.1, (sigS l l.2.2[k]).2.2.2.1, (sigS l l.2.2[k]).2.2.2.2.1) := by
  obtain ⟨g, e1, e2, _⟩ := sigOut l hm k
  have e3 := sigS_eq l k hk fun s hs => ⟨by have := (hsm.2.2.2.2.2 s hs).2.1; omega, by have := (hsm.2.2.2.2.2 s hs).2.2.1; omega⟩
  rw [e2] at e3
  have e3 := Option.some.inj e3
  simp only [Prod.mk.injEq] at e3
  obtain ⟨f1, f2, f3, f4, f5, f6⟩ := e3
  rw [e1, f1, f2, f3, f4, f5, f6]
theorem expE_zero {e : List Ty} {s : Sgn} {t : Ty} (h : expE e s t = 0) : (tyE e s).2.2 = 0 ∧ (tyE e s).1 = t := by
  unfold expE at h
  by_cases h1 : (tyE e s).2.2 = 0
  · rw [if_neg (fun g => g h1)] at h
    by_cases h2 : (tyE e s).1 = t
    · exact ⟨h1, h2⟩
    · rw [if_pos h2] at h; cases h
  · rw [if_pos h1] at h; exact absurd h h1
theorem wellTyped_eq (l : Lw) (x : Scp) (hw : WF rScope x) (j : Nat) (hj : j < x.2.2.2.2.length) (h0 : rulE l x j x.2.2.2.2[j] = 0) : M.law17_wellTyped big x.2.2.2.2[j] x (sigS l x) = some true := by
  have hwr := hw.2.2.2.2.2 _ (List.getElem_mem hj)
  obtain ⟨_, _, hd, _, _, _, _, hg, hv⟩ := rulE_ok.1 h0
  generalize x.2.2.2.2[j] = r at *
  have hwg := hwr.2.2.2.2.2.1.2
  have hwv := hwr.2.2.2.2.2.2.1.2
  obtain ⟨(d : Int), hdd⟩ : ∃ d : Int, d = r.2.1 := ⟨_, rfl⟩
  rw [← hdd] at hd
  have hd0 : (0 : Int) ≤ d := hd.1
  have hd1 : d < (x.2.2.2.1.length : Int) := hd.2
  obtain ⟨k, hk⟩ := Int.eq_ofNat_of_zero_le hd0
  have hk' : (r.2.1 : Int) = (k : Int) := by rw [← hdd, hk]
  have hkl : k < x.2.2.2.1.length := by omega
  rw [hk', Int.toNat_natCast, List.getElem?_eq_getElem hkl] at hv
  obtain ⟨v1, v2⟩ := expE_zero hv
  apply Wp.eq
  unfold M.law17_wellTyped
  rw [hk', if_neg (fun h => by have h : (k : Int) < 0 := of_decide_eq_true h; omega), Option.bind_some, if_neg (fun h => by have h : (x.2.2.2.1.length : Int) ≤ (k : Int) := of_decide_eq_true h; omega), TyOK.all _ _ hwv, Option.bind_some, if_neg (by simp [v1]), idx_nat hkl, Option.bind_some, Option.bind_some, v2, if_neg (by simp [eqR_iff.2 rfl])]
  by_cases h : r.2.2.2.2.2.1.length = 0
  · rw [if_pos (by rw [decide_eq_true_eq]; omega)]
    exact .some rfl
  · obtain ⟨g1, g2⟩ := expE_zero (hg (by omega))
    rw [if_neg (by rw [decide_eq_true_eq]; omega), TyOK.all _ _ hwg, Option.bind_some, if_pos (by simp [g1]), Option.bind_some, g2]
    exact .some (eqR_iff.2 rfl)
theorem LawWellTyped_true (l : Lw) (hw : WF rLaw l) : M.law17_LawWellTyped big l = some true := by
  apply Wp.eq
  unfold M.law17_LawWellTyped
  refine Wp.seq (fun j => j = false → SmallL l ∧ Valid l) ?_ fun j hj => ?_
  · rw [wp_bind]
    refine (smallL_wp l hw).mono fun y hy => ?_
    cases y with
    | false => exact .some fun h => (by cases h)
    | true =>
      rw [if_neg (by decide), pval_eq l hw (hy rfl), Option.bind_some]
      refine .some fun h => ⟨hy rfl, ?_⟩
      have : eqR rLawError (valS l) ((0 : Int), ((0 : Int), ((0 : Int), (0 : Int)))) = true := by simpa using h
      have hv : valS l = okE := eqR_iff.1 this
      unfold Valid; rw [hv]; rfl
  cases j with
  | true => rw [if_pos rfl, awakeW]; exact .some rfl
  | false =>
  obtain ⟨hsm, hval⟩ := hj rfl
  rw [if_neg (by decide), awakeW, wp_join]
  have hm := hval.mild hsm
  have h5 := hsm.2.2.1
  refine Wp.count (fun s => s) l.2.2.length (fun _ _ => True) (by omega) rfl trivial fun k s hk hs _ => ?_
  obtain rfl : s = _ := hs
  refine Wp.dec (fun hlt => ?_) fun hge => ?_
  · have hlt : k < l.2.2.length := by omega
    have hss := hsm.2.2.2.2.2 _ (List.getElem_mem hlt)
    have hsc := hval.scope k hlt
    have hwx := hw.2.2.2 _ (List.getElem_mem hlt)
    rw [wp_join, idx_nat hlt, Option.bind_some, sig_at l hm hsm k hlt, Option.bind_some]
    obtain ⟨x, hx⟩ : ∃ x, x = l.2.2[k] := ⟨_, rfl⟩
    rw [← hx] at hss hsc hwx ⊢
    rw [wp_join]
    have h60 := hss.2.2.2.1
    refine Wp.count (fun s => s) x.2.2.2.2.length (fun _ _ => True) (by omega) rfl trivial fun j s hj hs _ => ?_
    obtain rfl : s = _ := hs
    refine Wp.dec (fun hlt' => ?_) fun hge => ?_
    · have hj : j < x.2.2.2.2.length := by omega
      rw [idx_nat hj, Option.bind_some]
      rw [show ((sigS l x).1, ((sigS l x).2.1, ((sigS l x).2.2.1, ((sigS l x).2.2.2.1, ((sigS l x).2.2.2.2.1, (sigS l x).2.2.2.2.2))))) = sigS l x from rfl]
      rw [wellTyped_eq l x hwx j hj (hsc.2.2.2.2.2.2.1 j hj), Option.bind_some, if_neg (by decide)]
      exact .some ⟨hj, wrapS (m := x.2.2.2.2.length) (by omega) hj, trivial⟩
    · refine .some ?_
      show Wp _ _
      rw [wp_bind]
      refine (order_wp x hss).mono fun r hr => ?_
      obtain ⟨o, h1, h2, hr⟩ := hr
      have hall := order_all h1 h2 fun d hd hc => hsc.2.2.2.2.2.2.2 d hd ((trS_mem x d d).2 hc)
      rw [if_neg (by omega)] at hr
      subst hr
      rw [if_neg (by simp), Option.bind_some, hall, decide_eq_true rfl, if_neg (by simp)]
      refine .some ?_
      show Wp _ _
      exact .some ⟨hlt, wrapS (m := l.2.2.length) (by omega) hlt, trivial⟩
  · exact .some (.some rfl)
end L
end Go.Proofs.YtjeeligfdpociabGreat
