/- Chapter 38: Received and Waived as functions of the walker. -/
import Derived.Test.YtbhfmiaboidhnaaFn
import Derived.Test.YtbhfmiaboidhnaaLG
namespace Go.Proofs.Ytbhfmiaboidhnaa
open Go Go.RowKit

abbrev rP4 : Row := .pair (.int .i64) (.pair (.int .i64) (.pair (.int .i64) (.int .i64)))

theorem posts_of {F : Nat → Prop} {w : World} {A : Option Addr} {cap : Nat} {ps : List P4} (hF : ∀ b, F b → b < w.heap.size) (h : Rep F w (.slice rP4) [.slice A ps.length cap] ps) : ps.length ≤ maxLen ∧ Posts w.heap.size w A ps := by
  obtain ⟨A', cap', e, h1, h2, h3⟩ := h
  simp only [List.cons.injEq, Value.slice.injEq, and_true] at e
  obtain ⟨rfl, _, rfl⟩ := e
  refine ⟨by omega, fun i hi => ?_⟩
  obtain ⟨b, off, es, rfl, hb, hl, hc, hr⟩ := h3 i hi
  obtain ⟨c1, c2, rfl, r1, c3, c4, rfl, r2, c5, c6, rfl, r3, r4⟩ := hr
  have r1 : c1 = [.int .i64 ps[i].1] := r1
  have r2 : c3 = [.int .i64 ps[i].2.1] := r2
  have r3 : c5 = [.int .i64 ps[i].2.2.1] := r3
  have r4 : c6 = [.int .i64 ps[i].2.2.2] := r4
  subst r1 r2 r3 r4
  exact ⟨b, off, rfl, hF b hb, hc 0 _ rfl, hc 1 _ rfl, hc 2 _ rfl, hc 3 _ rfl⟩

theorem leaf2_fn {P : Program} {f : FuncId} {fn : List P4 → Int → Int} (hb : ∃ fn, P.funcs[f]? = some fn ∧ (fn.name == "runtime.NumGoroutine") = false ∧ fn.body.isNone = false)
    (hc : ∀ (A : Option Addr) (cap : Nat) (ps : List P4) (m : Int) (w : World), ps.length ≤ maxLen → Posts w.heap.size w A ps → Calls P f #[.slice A ps.length cap, .int .i64 m] w fun e W' => e = .returned (.int .i64 (fn ps m)) ∧ Below w.heap.size w W') :
    FnOK P f ⟨⟨[(0, .val false (.leaf (.slice rP4))), (1, .val false (.leaf (.int .i64)))], [], [], 0⟩, ⟨[(0, .val false (.leaf (.int .i64)))], [], [], 0⟩, fun x => some (fn x.1 x.2)⟩ := by
  refine ⟨hb, fun x y hxy args w H F G hlen hsl hob hall hG => ?_⟩
  match args, hlen with
  | [u, v], _ =>
  obtain ⟨ps, m⟩ := x
  have hxy : some (fn ps m) = some y := hxy
  obtain rfl := Option.some.inj hxy
  have hu : ValOK H F w false (.leaf (.slice rP4) ps) u := hsl 0 _ rfl
  have hv : ValOK H F w false (.leaf (.int .i64) m) v := hsl 1 _ rfl
  obtain ⟨cs, hc1, _, h2⟩ := hu
  obtain ⟨cs', hc', _, h2'⟩ := hv
  have hc' : cs' = [.int .i64 m] := hc'
  have ev : v = .int .i64 m := by have := (h2' rfl).symm.trans hc'; simpa using this
  subst ev
  have hr : Rep F w (.slice rP4) [u] ps := by rw [← h2 rfl]; exact hc1
  obtain ⟨A, cap, e, _⟩ := id hr
  obtain rfl : u = .slice A ps.length cap := by simpa using e
  obtain ⟨h3, h4⟩ := posts_of hob.lt hr
  refine (hc A cap ps m w h3 h4).mono fun e w' ⟨he, hw⟩ => ?_
  have hext : Ext G w w' := ⟨hw.os, hw.tape, hw.output, hw.size, fun k hk _ => hw.block k hk⟩
  have hst : Step F w F w' := fun b hb => ⟨hb, hw.block b (hob.lt b hb)⟩
  refine ⟨[_], he, rfl, H, F, hext, Hist.le.refl H, fun _ h => h, fun _ h => .inl h, fun i d h => ?_, ⟨fun o s t h => (by cases h), fun o o' s s' t t' u u' _ h => (by cases h), fun m h1 h2 => hall m h1, fun b hb => Nat.lt_of_lt_of_le (hob.lt b hb) hw.size, fun b hb => .inl (Nat.le_trans hw.size hb), hob.gl.step hst⟩, hall⟩
  have h : find [(0, Desc.val false (.leaf (.int .i64) (fn ps m)))] i = some d := h
  rw [find_cons] at h
  split at h
  · rename_i h0
    subst h0
    obtain rfl := Option.some.inj h
    exact ValOK.leaf1 rfl
  · cases h

def recM (a0 : List P4) (a1 : Int) : Option Int := some (recN a1 a0 3)
def wavM (a0 : List P4) (a1 : Int) : Option Int := some (wavW a1 (ofK 4 a0))
theorem received_fn : FnOK Try.prog 19 ⟨⟨[(0, .val false (.leaf (.slice rP4))), (1, .val false (.leaf (.int .i64)))], [], [], 0⟩, ⟨[(0, .val false (.leaf (.int .i64)))], [], [], 0⟩, fun x => recM x.1 x.2⟩ :=
  leaf2_fn (fn := fun ps m => recN m ps 3) ⟨_, Try.func19, by kernel_rfl, by kernel_rfl⟩ fun A cap ps m w h1 h2 => callsIn_wide.1 (received_in Fence.wide 6 trivial trivial trivial trivial rfl (Nat.le_refl 6) A cap ps m w h1 h2)
theorem waived_fn : FnOK Try.prog 20 ⟨⟨[(0, .val false (.leaf (.slice rP4))), (1, .val false (.leaf (.int .i64)))], [], [], 0⟩, ⟨[(0, .val false (.leaf (.int .i64)))], [], [], 0⟩, fun x => wavM x.1 x.2⟩ :=
  leaf2_fn (fn := fun ps m => wavW m (ofK 4 ps)) ⟨_, Try.func20, by kernel_rfl, by kernel_rfl⟩ fun A cap ps m w h1 h2 => callsIn_wide.1 (waived_in Fence.wide 6 trivial trivial trivial rfl (Nat.le_refl 6) A cap ps m w h1 h2)
end Go.Proofs.Ytbhfmiaboidhnaa
