/- Chapter 27: VmSteps (plain law). -/
import Derived.Test.YtomgmnkalommeaaDoorPM2
import Derived.Test.YtomgmnkalommeaaDoorOpen
namespace Go.Proofs.YtomgmnkalommeaaDoor
open Go Go.RowKit
set_option maxRecDepth 100000
namespace L

theorem awake27 : M.law27_awake big = some true := by show (_ : Option Bool) = _; kernel_rfl

theorem VmSteps_true (e : List Ty) (env : rEnv.den) (hwe : WF (.slice rType) e) (_ : WF rEnv env) : M.law27_VmSteps big e env = some true := by
  apply Wp.eq
  unfold M.law27_VmSteps
  rw [awake27]
  simp only [Option.bind_some]
  refine Wp.seq (fun j => j = false → EnvOK env) ?_ fun j hj => ?_
  · refine Wp.dec (fun _ => .some fun h => by cases h) fun _ => ?_
    exact Wp.seq _ small_ok fun b hb => .some fun h => hb (by simpa using h)
  refine Wp.ite (fun _ => .some rfl) fun hc => ?_
  have he := hj (by simpa using hc)
  refine Wp.seq _ (Run_wp he (wf_mem hwe)) fun r hr => ?_
  obtain ⟨y, hy, h1, h2⟩ := hr
  rw [hy]
  simp only [Option.bind_some]
  refine Wp.ndec (fun h => ?_) fun h => ?_
  · have h1 := h1 h
    rw [h1]
    exact .some rfl
  obtain ⟨h3, h4⟩ := h2 h
  refine Wp.ndec (fun h => ?_) fun h => ?_
  · obtain ⟨h5, h6⟩ := h3 h
    simp [h5, h6]
    exact .some rfl
  · obtain ⟨h5, h6⟩ := h4 h
    simp [h5, h6]
    exact .some rfl
end L
end Go.Proofs.YtomgmnkalommeaaDoor
