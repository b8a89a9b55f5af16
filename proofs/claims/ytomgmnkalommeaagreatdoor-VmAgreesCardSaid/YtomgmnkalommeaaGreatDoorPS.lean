/- Environments of moderate size (plain law). -/
import Derived.Test.YtomgmnkalommeaaGreatDoorPT3
namespace Go.Proofs.YtomgmnkalommeaaGreatDoor
open Go Go.RowKit
set_option maxRecDepth 100000
namespace L

theorem small_ok {env : rEnv.den} : Wp (M.ref13_Small big env) fun b => b = true → EnvOK env := by
  unfold M.ref13_Small
  simp only [ite_some, or_b, Option.bind_some]
  refine Wp.ite (fun h => .some (by simp)) fun h => ?_
  simp only [Bool.or_eq_true, decide_eq_true_eq, not_or] at h
  have hm : env.2.2.2.1.length ≤ 20 := by omega
  have ht : env.2.2.2.2.2.length ≤ 10 := by omega
  refine Wp.join (Wp.loop (fun s : Int => ∃ k : Nat, s = k ∧ k ≤ env.2.2.2.1.length) (fun s => (env.2.2.2.1.length - s).toNat) ⟨0, rfl, Nat.zero_le _⟩ (by unfold big; omega) ?_)
  rintro _ ⟨k, rfl, hk⟩
  refine Wp.dec (fun h => ?_) fun h => .some ?_
  · have hk' : k < env.2.2.2.1.length := by omega
    rw [idx_nat hk']
    simp only [Option.bind_some]
    rw [wrap_succ (by omega)]
    split
    · exact .some fun h => by cases h
    · exact .some ⟨⟨k + 1, rfl, hk'⟩, by simp only; omega⟩
  · show Wp _ _
    refine Wp.loop (fun s : Int => ∃ k : Nat, s = k ∧ k ≤ env.2.2.2.2.2.length ∧ ∀ t ∈ env.2.2.2.2.2.take k, t.2.2.2.length ≤ 80) (fun s => (env.2.2.2.2.2.length - s).toNat) ⟨0, rfl, Nat.zero_le _, by simp⟩ (by unfold big; omega) ?_
    rintro _ ⟨k, rfl, hk, hp⟩
    refine Wp.dec (fun h => ?_) fun h => .some fun _ => ?_
    · have hk' : k < env.2.2.2.2.2.length := by omega
      rw [idx_nat hk']
      simp only [Option.bind_some]
      rw [wrap_succ (by omega)]
      split
      · exact .some fun h => by cases h
      · rename_i hn
        refine .some ⟨⟨k + 1, rfl, hk', fun t ht => ?_⟩, by simp only; omega⟩
        rw [List.take_succ_eq_append_getElem hk'] at ht
        rcases List.mem_append.1 ht with ht | ht
        · exact hp t ht
        · rw [List.mem_singleton.1 ht]; simp at hn; omega
    · rw [List.take_of_length_le (by omega)] at hp
      exact ⟨by omega, fun t ht => by have := hp t ht; omega⟩

end L
end Go.Proofs.YtomgmnkalommeaaGreatDoor
