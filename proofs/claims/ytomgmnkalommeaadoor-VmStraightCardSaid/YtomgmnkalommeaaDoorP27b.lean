/- Chapter 27: VmStraight (plain law). -/
import Derived.Test.YtomgmnkalommeaaDoorPM4
import Derived.Test.YtomgmnkalommeaaDoorP27
namespace Go.Proofs.YtomgmnkalommeaaDoor
open Go Go.RowKit
set_option maxRecDepth 100000
namespace L

theorem VmStraight_true (e : List Ty) (env : rEnv.den) (hwe : WF (.slice rType) e) (_ : WF rEnv env) : M.law27_VmStraight big e env = some true := by
  apply Wp.eq
  unfold M.law27_VmStraight
  rw [awake27]
  simp only [Option.bind_some]
  refine Wp.seq (fun j => j = false → e.length ≤ 48 ∧ EnvOK env) ?_ fun j hj => ?_
  · refine Wp.dec (fun _ => .some fun h => by cases h) fun h1 => ?_
    exact Wp.seq _ small_ok fun b hb => .some fun h => ⟨by omega, hb (by simpa using h)⟩
  refine Wp.ite (fun _ => .some rfl) fun hc => ?_
  obtain ⟨hle, he⟩ := hj (by simpa using hc)
  have hwf := wf_mem hwe
  refine Wp.join (Wp.loop (fun s : Int => ∃ k : Nat, s = k ∧ k ≤ e.length ∧ ∀ n ∈ e.take k, (n.1 : Int) ≤ 39 ∧ ¬ isLazy n.1) (fun s => (e.length - s).toNat) ⟨0, rfl, Nat.zero_le _, by simp⟩ (by unfold big; omega) ?_)
  rintro _ ⟨k, rfl, hk, hnl⟩
  refine Wp.dec (fun h => ?_) fun h => .some ?_
  · have hk' : k < e.length := by omega
    rw [idx_nat hk']
    simp only [Option.bind_some, ite_some, or_b]
    refine .some ?_
    split
    · exact rfl
    rename_i hn
    rw [wrap_succ (by omega)]
    refine ⟨⟨k + 1, rfl, hk', fun n hm => ?_⟩, by simp only; omega⟩
    rw [List.take_succ_eq_append_getElem hk'] at hm
    rcases List.mem_append.1 hm with hm | hm
    · exact hnl n hm
    · rw [List.mem_singleton.1 hm]
      simp only [Bool.or_eq_true, decide_eq_true_eq, not_or] at hn
      exact ⟨Int.not_lt.1 hn.2.1, fun h => h.elim hn.2.2.1 fun h => h.elim hn.2.2.2.1 hn.2.2.2.2⟩
  have hnl : ∀ n ∈ e, (n.1 : Int) ≤ 39 ∧ ¬ isLazy n.1 := by rw [List.take_of_length_le (by omega)] at hnl; exact hnl
  have hst : M.expr_Starts big e = some ((sres e).2.1, (sres e).2.2) := by
    unfold M.expr_Starts
    rw [structure_eq]
    rfl
  show Wp ((M.expr_Starts big e).bind _) _
  rw [hst]
  simp only [Option.bind_some]
  rcases sres_cases e with hbad | ⟨st, w⟩
  · rw [if_pos (by simp [hbad])]
    exact .some rfl
  rw [w.res]
  simp only
  rw [if_neg (by simp), Eval_whole w he hwf]
  refine Wp.seq _ (Run_str ⟨w, hnl⟩ he hwf) fun r hr => ?_
  obtain ⟨v, n, c⟩ := r
  obtain ⟨h1, h2, h3⟩ := hr
  dsimp only at h1 h2 h3
  subst h1 h2
  simp only [Option.bind_some]
  by_cases h0 : (nodeE (apE env) e st e.length (e.length - 1)).2 = 0
  · rw [h3 h0]
    simp [eqR]
    exact .some rfl
  · simp [eqR, h0]
    exact .some rfl
end L
end Go.Proofs.YtomgmnkalommeaaDoor
