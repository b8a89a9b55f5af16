/- Slices whose elements own slices: what was taken out is put back; literals, append. -/
import Derived.Test.YtjeeligfdpociaaGreatEffs7
namespace Go.Proofs.YtjeeligfdpociaaGreat
open Go Go.RowKit

def modL {α : Type} (l : List α) (i : Int) (f : α → α) : List α := if 0 ≤ i then l.modify i.toNat f else l
theorem modL_length {α : Type} (l : List α) (i : Int) (f : α → α) : (modL l i f).length = l.length := by unfold modL; split <;> simp
theorem modL_at {α : Type} {l : List α} {i : Int} {f : α → α} {j : Nat} (h : j < (modL l i f).length) (h' : j < l.length) : (modL l i f)[j] = if i = (j : Int) then f l[j] else l[j] := by
  by_cases hi : 0 ≤ i
  · have e : modL l i f = l.modify i.toNat f := by unfold modL; rw [if_pos hi]
    simp only [e, List.getElem_modify]
    by_cases hij : i = (j : Int)
    · rw [if_pos hij, if_pos (by omega)]
    · rw [if_neg hij, if_neg (by omega)]
  · have e : modL l i f = l := by unfold modL; rw [if_neg hi]
    simp only [e]
    rw [if_neg (by omega)]

theorem Path.set_get : {r s : Row} → (p : Path r s) → (x : r.den) → p.set x (p.get x) = x
  | _, _, .here, _ => rfl
  | _, _, .fst p, x => by show (p.set x.1 (p.get x.1), x.2) = x; rw [Path.set_get p]
  | _, _, .snd p, x => by show (x.1, p.set x.2 (p.get x.2)) = x; rw [Path.set_get p]

section
variable {P : Program} {ρ : Nat → Value} {w w' : World} {H H' : Hist} {F F' : Nat → Prop} {U : Nat → Prop} {ob : Nat → Option (Nat × Th)} {n : Nat} {R : Type}
variable {op : Op} {ty : TypeId} {pos : String} {aft : Array Edge} {d : Nat}

def mendE (ob : Nat → Option (Nat × Th)) (n o : Nat) : Option Eff :=
  match ob o with
  | some (_, .deep T0 dr l (some h)) => match dr.path h.p with
    | some ⟨.sl T' e', q⟩ => match ob h.o with
      | some (_, t1) => bif Nat.beq h.o o then none else (match asD T' e' t1 with
        | some y => some { dst := .dead, eat := [o, h.o], make := [(o, (n, .deep T0 dr (modL l h.i fun x => q.hi.set x y) none))] }
        | none => none)
      | none => none
    | _ => none
  | _ => none

theorem mend_post (hs : ObSat U H F w ob n) {o : Nat} {e : Eff} (h : mendE ob n o = some e) : PostE H F w ob n e undef w := by
  unfold mendE at h
  split at h
  case h_2 => cases h
  rename_i s T0 dr l hh hob
  split at h
  case h_2 => cases h
  rename_i T' e' q hq
  split at h
  case h_2 => cases h
  rename_i s1 t1 hob1
  cases hne : Nat.beq hh.o o with
  | true => rw [hne] at h; cases h
  | false =>
    rw [hne, cond_false] at h
    have hne : o ≠ hh.o := fun e => by rw [e] at hne; simp at hne
    split at h
    case h_2 => cases h
    rename_i y hD
    obtain rfl := Option.some.inj h
    have hD := asD_ok hD
    subst hD
    obtain ⟨v, hv, hin⟩ := hs.obj _ _ _ hob
    obtain ⟨u, hu, hin1⟩ := hs.obj _ _ _ hob1
    obtain ⟨lh, Ss, hown, hlen, hrel, hparts⟩ := hs.low hob hv
    have hA := mkD_back hin1.ok
    generalize hAA : (fun k => fp (H.sub s1) u (mkD T' e' y) k) = A at hA
    have hAd : ∀ k, A k → ¬ H.sub s k := fun k hk => by
      rw [← hAA] at hk
      exact fun h2 => hs.apart _ _ _ _ _ _ _ _ hne hob hob1 hv hu k h2 hk
    have hf := hs.fresh n (Nat.le_refl _) (by omega)
    let Ss' : Nat → Nat → Prop := fun i k => Ss i k ∨ (hh.i = (i : Int) ∧ A k)
    have heat : ∀ k, H.sub s k ∨ A k → eaten H ob [o, hh.o] k := by
      rintro k (hk | hk)
      · exact ⟨o, by simp, s, _, v, hob, hv, hk⟩
      · rw [← hAA] at hk
        exact ⟨hh.o, by simp, s1, _, u, hob1, hu, hk⟩
    have hS : ∀ k, sumP (mine v) Ss' l.length k → H.sub s k ∨ A k := by
      rintro k (hk | ⟨i, hi, hk | hk⟩)
      · exact .inl (hparts.mine k hk)
      · exact .inl (hparts.part hi k hk)
      · exact .inr hk.2
    refine Post.remake (t' := .deep T0 dr (modL l hh.i fun x => q.hi.set x y) none) hs hob hv rfl (by simp) (sumP (mine v) Ss' l.length) (fun k hk => heat k (hS k hk)) ⟨rfl, rfl, rfl, Nat.le_refl _, fun _ _ _ => rfl⟩ ?_ trivial
    have hlen' : (modL l hh.i fun x => q.hi.set x y).length = l.length := modL_length ..
    refine ⟨lh, Ss', hown.2, by rw [hlen']; exact hlen, fun i a b => ?_, ?_⟩
    · have b' : i < l.length := by omega
      rw [modL_at b b']
      have hr := hrel i a b'
      by_cases hi : hh.i = (i : Int)
      · rw [if_pos hi]
        obtain ⟨T'', e'', q'', k1, k2, k3⟩ := hr.2 hi
        rw [hq] at k1
        cases k1
        rw [hu] at k3
        have k3 := Option.some.inj k3
        have : DEl F w dr (q.lo.set lh[i] u) (q.hi.set l[i] y) (Ss' i) := k2.put q hA ⟨fun k => ⟨fun hk => hk.elim .inr fun hk => .inl hk.2, fun hk => hk.elim (fun hk => .inr ⟨hi, hk⟩) .inl⟩, fun k hk h2 => hAd k hk (hparts.part b' k h2)⟩
        rw [k3, Path.set_get] at this
        exact this
      · rw [if_neg hi]
        have hr1 := hr.1 hi
        have : Ss' i = Ss i := by
          funext k
          exact propext ⟨fun hk => hk.elim id fun hk => absurd hk.1 hi, .inl⟩
        rw [this]
        exact hr1
    · rw [hlen']
      refine ⟨fun k => Iff.rfl, fun i j k h1 h2 hij h3 h4 => ?_, fun i k h1 h3 h4 => ?_⟩
      · rcases h3 with h3 | h3 <;> rcases h4 with h4 | h4
        · exact hparts.two i j k h1 h2 hij h3 h4
        · exact hAd k h4.2 (hparts.part h1 k h3)
        · exact hAd k h3.2 (hparts.part h2 k h4)
        · have := h3.1; have := h4.1; omega
      · rcases h3 with h3 | h3
        · exact hparts.out i k h1 h3 h4
        · exact hAd k h3.2 (hparts.mine k h4)
end
end Go.Proofs.YtjeeligfdpociaaGreat
