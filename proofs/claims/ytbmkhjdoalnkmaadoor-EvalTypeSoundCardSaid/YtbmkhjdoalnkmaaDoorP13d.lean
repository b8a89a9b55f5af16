/- Chapter 13: EvalTypeSound (plain law). -/
import Derived.Test.YtbmkhjdoalnkmaaDoorPY6
import Derived.Test.YtbmkhjdoalnkmaaDoorPA
import Derived.Test.YtbmkhjdoalnkmaaDoorPS
import Derived.Test.YtbmkhjdoalnkmaaDoorOpen
namespace Go.Proofs.YtbmkhjdoalnkmaaDoor
open Go Go.RowKit
set_option maxRecDepth 100000
namespace L

theorem awake13 : M.law13_awake big = some true := by show (_ : Option Bool) = _; kernel_rfl

theorem EvalTypeSound_true (e : List Ty) (s : Sg) (env : rEnv.den) (hwe : WF (.slice rType) e) (_ : WF rSignature s) (_ : WF rEnv env) : M.law13_EvalTypeSound big e s env = some true := by
  apply Wp.eq
  unfold M.law13_EvalTypeSound
  rw [awake13]
  simp only [Option.bind_some]
  refine Wp.seq (fun j => j = false → EnvOK env ∧ Agr s env ∧ env.2.2.2.2.2.length ≤ 10) ?_ fun j hj => ?_
  · refine Wp.dec (fun _ => .some fun h => by cases h) fun _ => ?_
    refine Wp.seq _ (sg_wp s) fun b1 h1 => ?_
    refine Wp.ite (fun _ => .some fun h => by cases h) fun c1 => ?_
    have hs := h1 (by simpa using c1)
    refine Wp.seq _ small_ok fun b2 h2 => ?_
    refine Wp.ite (fun _ => .some fun h => by cases h) fun c2 => ?_
    have he := h2 (by simpa using c2)
    refine Wp.seq _ (agrees_wp hs he) fun b3 h3 => ?_
    refine Wp.ite (fun _ => .some fun h => by cases h) fun c3 => ?_
    have ha := h3 (by simpa using c3)
    refine Wp.seq _ (tables_wp hs he) fun b4 h4 => .some fun h => ?_
    obtain ⟨t1, t2⟩ := h4 (by simpa using h)
    refine ⟨he, ⟨fun k t hk => ?_, fun k t hk => ?_, ha.mts, fun l hl k t hk => ?_, t2⟩, by have := hs.tables; omega⟩
    · obtain ⟨v, g1, g2⟩ := ha.inp.2 k t hk
      exact ⟨v, g1, g2.resolve_right (by simp)⟩
    · obtain ⟨v, g1, g2⟩ := ha.dfs.2 k t hk
      exact ⟨v, g1, g2.imp id fun h => h.2⟩
    · obtain ⟨v, g1, g2⟩ := (ha.mem l hl).2 k t hk
      exact ⟨v, g1, g2.imp id fun h => h.2⟩
  refine Wp.ite (fun _ => .some rfl) fun hc => ?_
  obtain ⟨he, ag, htl⟩ := hj (by simpa using hc)
  have hwf := wf_mem hwe
  refine Wp.join (Wp.loop (fun q : Int => ∃ k : Nat, q = k ∧ k ≤ env.2.2.2.2.2.length) (fun q => (env.2.2.2.2.2.length - q).toNat) ⟨0, rfl, Nat.zero_le _⟩ (by unfold big; omega) ?_)
  rintro _ ⟨k, rfl, hk⟩
  refine Wp.dec (fun h => ?_) fun h => .some ?_
  · have hk' : k < env.2.2.2.2.2.length := by omega
    rw [idx_nat hk', wrap_succ (by omega)]
    simp only [Option.bind_some]
    refine Wp.seq _ (validate_wp ..) fun y _ => Wp.ite (fun _ => .some ?_) fun _ => .some ?_
    · exact rfl
    · exact ⟨⟨k + 1, rfl, hk'⟩, by simp only; omega⟩
  show Wp _ _
  refine Wp.seq _ (TypeOf_wp hwf) fun r hr => ?_
  refine Wp.ndec (fun _ => .some rfl) fun h0 => ?_
  obtain ⟨st, w, ty, hrt, hty⟩ := hr h0
  have hpos : 0 < e.length := List.length_pos_iff.2 w.ne
  rw [Eval_whole w he hwf]
  simp only [Option.bind_some]
  have hok := node_sound w he ag hty e.length (e.length - 1) (by omega) (by omega)
  rw [← hrt] at hok
  generalize nodeE (apE env) e st e.length (e.length - 1) = q at *
  obtain ⟨v, c⟩ := q
  obtain ⟨hc3, hv⟩ := hok
  dsimp only at hc3 hv ⊢
  refine Wp.ndec (fun hne => ?_) fun h0 => ?_
  · unfold C3 at hc3
    rcases hc3 with h | rfl | rfl | rfl
    · exact absurd h hne
    · exact .of (x := true) rfl rfl
    · exact .of (x := true) rfl rfl
    · exact .of (x := true) rfl rfl
  · rw [Has_ref, decide_eq_true (hv h0)]
    exact .of (x := true) rfl rfl
end L
end Go.Proofs.YtbmkhjdoalnkmaaDoor
