/- A law's call, from its contract. -/
import Derived.Test.YtjeeligfdpociaaGreatFn
import Derived.Test.YtjeeligfdpociaaGreatOpen
namespace Go.Proofs.YtjeeligfdpociaaGreat
open Go Go.RowKit

/-- The arguments of a law. -/
inductive ArgL (F : Nat → Prop) (w : World) : Nat → List (Nat × SS) → List Dat → List Value → Prop where
  | nil {k : Nat} : ArgL F w k [] [] []
  | cons {k : Nat} {agg : Bool} {r : Row} {x : r.den} {v : Value} {ss : List (Nat × SS)} {ds : List Dat} {vs : List Value} (h : ValOK ⟨fun _ => none, fun _ => none, fun _ _ => False⟩ F w agg (.leaf r x) v) (hs : ArgL F w (k + 1) ss ds vs) : ArgL F w k ((k, .val agg (.leaf r)) :: ss) (⟨r, x⟩ :: ds) (v :: vs)

theorem ArgL.slots {F : Nat → Prop} {w : World} {k : Nat} {ss : List (Nat × SS)} {ds : List Dat} {vs : List Value} (h : ArgL F w k ss ds vs) : (∀ t d, find (resS ss ds).1 t = some d → k ≤ t ∧ DescOK ⟨fun _ => none, fun _ => none, fun _ _ => False⟩ F w d (vs.getD (t - k) undef)) ∧ (resS ss ds).2 = [] ∧ vs.length = ss.length := by
  induction h with
  | nil => exact ⟨fun _ _ h => (by cases h), rfl, rfl⟩
  | @cons k agg r x v ss ds vs h hs ih =>
    refine ⟨fun t d hf => ?_, ih.2.1, by simp [ih.2.2]⟩
    have hf' : find ((k, Desc.val agg (bif r.beq r then Tree.leaf r x else .nil)) :: (resS ss ds).1) t = some d := hf
    rw [find_cons] at hf'
    split at hf'
    · rename_i e
      subst e
      obtain rfl := Option.some.inj hf'
      rw [Row.beq_refl, Nat.sub_self]
      exact ⟨Nat.le_refl _, h⟩
    · obtain ⟨h1, h2⟩ := ih.1 t d hf'
      refine ⟨by omega, ?_⟩
      rw [show t - k = (t - (k + 1)) + 1 from by omega]
      simpa using h2

theorem argv_int (F : Nat → Prop) (w : World) (k : IntKind) (x : Int) : ValOK ⟨fun _ => none, fun _ => none, fun _ _ => False⟩ F w false (.leaf (.int k) x) (.int k x) := ValOK.leaf1 rfl
theorem argv_bool (F : Nat → Prop) (w : World) (x : Bool) : ValOK ⟨fun _ => none, fun _ => none, fun _ _ => False⟩ F w false (.leaf .bool x) (.bool x) := ValOK.leaf1 rfl
theorem argv_str (F : Nat → Prop) (w : World) (x : ByteArray) : ValOK ⟨fun _ => none, fun _ => none, fun _ _ => False⟩ F w false (.leaf .str x) (.string x) := ValOK.leaf1 rfl
theorem argv_slice {F : Nat → Prop} {w : World} {r : Row} {l : List r.den} {v : Value} (h : Rep F w (.slice r) [v] l) : ValOK ⟨fun _ => none, fun _ => none, fun _ _ => False⟩ F w false (.leaf (.slice r) l) v := ValOK.leaf1 h
theorem argv_struct {F : Nat → Prop} {w : World} {r : Row} {x : r.den} {es : List Value} (h : Rep F w r es x) : ValOK ⟨fun _ => none, fun _ => none, fun _ _ => False⟩ F w true (.leaf r x) (.agg es.toArray) := ⟨es, h, rfl, by simp⟩

theorem law_calls {P : Program} {f : FuncId} {inn : JS} {fn : tupDen inn.rows → Option Bool} (h : FnOK P f ⟨inn, ⟨[(0, .val false (.leaf .bool))], [], [], 0⟩, fn⟩) {x : tupDen inn.rows} {y : Bool} (hy : fn x = some y) {ds : List Dat} (hds : ofTup inn.rows x = ds) {W : World} {vs : List Value}
    (ha : ArgL (fun b => b < W.heap.size) W 0 inn.slots ds vs) (ho : inn.objs = []) (hgl : GlobOK (fun b => b < W.heap.size) W) : Calls P f vs.toArray W fun e W' => e = .returned (.bool y) ∧ Below W.heap.size W W' := by
  obtain ⟨h1, h2, h3⟩ := ha.slots
  subst hds
  refine (h.ok x y hy vs W ⟨fun _ => none, fun _ => none, fun _ _ => False⟩ (fun b => b < W.heap.size) (fun _ => False) h3 (fun t d hd => by simpa using (h1 t d hd).2) ?_ (fun _ _ => ⟨rfl, rfl⟩) (fun _ h => h.elim)).mono fun e W' ⟨us, he, hul, H', F', a1, _, _, _, a5, _⟩ => ?_
  · show ObSat _ _ _ W (find (resO 0 inn.objs _)) inn.nxt
    rw [ho]
    exact ⟨fun _ _ _ h => (by cases h), fun _ _ _ _ _ _ _ _ _ h => (by cases h), fun _ _ _ => ⟨rfl, rfl⟩, fun _ h => h, fun _ h => .inl h, hgl⟩
  · refine ⟨?_, ⟨a1.os, a1.tape, a1.output, a1.size, fun k hk => a1.block k hk (fun h => h)⟩⟩
    match us, hul with
    | [u], _ =>
      have := a5 0 (dBool y) rfl
      have hu : u = .bool y := ValOK.bool (x := y) this
      rw [he, hu]
      rfl
end Go.Proofs.YtjeeligfdpociaaGreat
