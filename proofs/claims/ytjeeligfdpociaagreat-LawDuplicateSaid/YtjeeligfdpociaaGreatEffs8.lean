/- Slices whose elements own slices: stores, what is put back. -/
/- Slices whose elements own slices: what was taken out is put back; literals, append. -/
import Derived.Test.YtjeeligfdpociaaGreatEffs6
namespace Go.Proofs.YtjeeligfdpociaaGreat
open Go Go.RowKit

section
variable {P : Program} {ρ : Nat → Value} {w w' : World} {H H' : Hist} {F F' : Nat → Prop} {U : Nat → Prop} {ob : Nat → Option (Nat × Th)} {n : Nat} {R : Type}
variable {op : Op} {ty : TypeId} {pos : String} {aft : Array Edge} {d : Nat}

noncomputable def eStoreD (T : Tabs P) (ob : Nat → Option (Nat × Th)) (n : Nat) (t : TypeId) (D V : Desc) (k : Eff → Option R) : Option R :=
  match find T.row t with
  | none => none
  | some rt => match V with
    | .val _ u => match D with
      | .dlm o d0 i p off => match ob o with
        | some (_, .deep T0 dr l h) => bif d0.beq dr then (match dr.path p with
          | some ⟨.leaf r, q⟩ => bif Nat.beq q.lo.off off && Nat.beq rt.size r.size then (match flat ob r u with
            | some y => (idx l i).bind fun x => k { dst := .dead, eat := [o], make := [(o, (n, .deep T0 dr (setL l i (q.hi.set x y)) h))] }
            | none => none) else none
          | some ⟨.sl T' e', q⟩ => bif Nat.beq q.lo.off off && Nat.beq rt.size 1 then (match u with
            | .own o1 => match ob o1 with
              | some (_, t1) => match asD T' e' t1 with
                | some _ => if holeAt h i p = true then (idx l i).bind fun _ => k { dst := .dead, eat := [o], make := [(o, (n, .deep T0 dr l (some ⟨i, p, o1, n⟩)))] } else none
                | none => none
              | none => none
            | .nil => if holeAt h i p = true then (idx l i).bind fun x => k { dst := .dead, eat := [o], make := [(o, (n, .deep T0 dr (setL l i (q.hi.set x ([] : List e'.row.den))) none))] } else none
            | _ => none) else none
          | _ => none) else none
        | _ => none
      | _ => none
    | _ => none

/-- A store into a place of what is deep. -/
theorem deep_store (T : Tabs P) {t : TypeId} {rt : Row} (hrt : find T.row t = some rt) {x y : Operand} {o s : Nat} {T0 : TypeId} {dr e : DR} {i : Int} {l l' : List dr.row.den} {h h' : Option Hole} {q : DPath dr e} {g o0 qq m cap j : Nat} {u : e.low.den} {cs : List Value} {x1 : dr.row.den}
    (hs : ObSat U H F w ob n) (hob : ob o = some (s, .deep T0 dr l h)) (hv : H.val o = some (.slice (some ⟨g, o0, none⟩) m cap)) (hj : i = (j : Nat)) (hjl : j < l.length) (hx : ev ρ x = .pointer (some ⟨g, o0 + qq * dr.low.size + q.lo.off, none⟩)) (hqq : i = (qq : Nat)) (hz : rt.size = e.low.size)
    (hr : Rep F w e.low cs u) (hve : (ev ρ y).cells.toList = cs) (hl' : l' = l.set j x1)
    (hrel : ∀ {w' : World} {H1 : Hist}, H.le H1 → Step F w F w' → ∀ {x' : dr.low.den} {S : Nat → Prop}, (∀ k, S k → w'.heap[k]? = w.heap[k]?) → HRel H F w dr h j x' l[j] S → ∃ B, (∀ k, B k → S k) ∧ HRel H1 F w' dr h' j (q.lo.set x' u) x1 B)
    (hoth : ∀ {H1 : Hist} {w' : World} {i' : Nat} {x' : dr.low.den} {x : dr.row.den} {S : Nat → Prop}, i' ≠ j → HRel H1 F w' dr h i' x' x S → HRel H1 F w' dr h' i' x' x S) :
    Says P U H F w ρ ob n ⟨none, .store t x y, ty, pos, aft, none⟩ { dst := .dead, eat := [o], make := [(o, (n, .deep T0 dr l' h'))] } := by
  obtain ⟨ti, z0, h1, _, _, h4, _⟩ := T.row_ok _ _ hrt
  obtain ⟨lh, Ss, hown, hlen, hrels, hparts⟩ := hs.low hob hv
  obtain ⟨v1, hv1, hin⟩ := hs.obj _ _ _ hob
  rw [hv] at hv1
  obtain rfl := Option.some.inj hv1
  have hjh : j < lh.length := by omega
  obtain rfl : qq = j := by omega
  obtain ⟨cur, hh, hle, hext, hown'⟩ := hown.put rfl hjh hs.lt q.lo hr
  generalize hw' : w.setRow g (cur.toList.take (o0 + qq * dr.low.size + q.lo.off) ++ cs ++ cur.toList.drop (o0 + qq * dr.low.size + q.lo.off + cs.length)).toArray = w' at hext hown'
  refine RunsTo.unit (w' := w') (by rw [← hw']; exact run_storeRow h1 (h4.trans (hz.trans hr.length.symm)) hx rfl hve hr.oneCell hh hle) ?_
  have hst : Step F w F w' := Step.ext hext hs.lt hown.no
  have hblk : ∀ i', i' < l.length → ∀ k, Ss i' k → w'.heap[k]? = w.heap[k]? := fun i' hi' k hk => hext.block k (hin.lt k (hparts.part hi' k hk)) (hparts.out i' k hi' hk)
  have hf := hs.fresh n (Nat.le_refl _) (by omega)
  have heat : ∀ k, H.sub s k → eaten H ob [o] k := fun k hk => ⟨o, by simp, s, _, _, hob, hv, hk⟩
  -- the blocks behind
  obtain ⟨B0, hB0, _⟩ := hrel (w' := w') (H1 := H) (Hist.le.refl H) hst (hblk qq hjl) (hrels qq hjh hjl)
  have main : ∀ {H1 : Hist}, H.le H1 → ∃ B, (∀ k, B k → Ss qq k) ∧ HRel H1 F w' dr h' qq (q.lo.set lh[qq] u) x1 B := fun hle1 => hrel hle1 hst (hblk qq hjl) (hrels qq hjh hjl)
  -- which blocks: those of any such history; take the ones that H itself gives, and carry them over
  have main2 : ∃ B, (∀ k, B k → Ss qq k) ∧ ∀ {H1 : Hist}, H.le H1 → HRel H1 F w' dr h' qq (q.lo.set lh[qq] u) x1 B := by
    obtain ⟨B, b1, b2⟩ := main (Hist.le.refl H)
    exact ⟨B, b1, fun hle1 => b2.keep hle1 (Step.refl F w') fun _ _ => rfl⟩
  obtain ⟨B, b1, b2⟩ := main2
  have hSs : ∀ k, sumP (mine (Value.slice (some ⟨g, o0, none⟩) m cap)) (fun i => if i = qq then B else Ss i) l.length k → H.sub s k := hparts.less_sub qq b1
  refine Post.remake (t' := .deep T0 dr l' h') hs hob hv rfl (by simp) (sumP (mine (Value.slice (some ⟨g, o0, none⟩) m cap)) (fun i => if i = qq then B else Ss i) l.length) (fun k hk => heat k (hSs k hk)) ⟨hext.os, hext.tape, hext.output, hext.size, fun k hk hn => hext.block k hk fun e => hn (heat k (hparts.mine k e))⟩ ?_ trivial
  have hle1 := Hist.le_deep (H := H) (S := sumP (mine (Value.slice (some ⟨g, o0, none⟩) m cap)) (fun i => if i = qq then B else Ss i) l.length) (t := .deep T0 dr l' h') hf.2
  have hlen' : l'.length = l.length := by rw [hl']; simp
  refine ⟨lh.set qq (q.lo.set lh[qq] u), (fun i => if i = qq then B else Ss i), hown'.2, by rw [hlen']; simpa using hlen, ?_, ?_⟩
  · intro i' a b
    have := rel_set (rel := HRel ((H.setSub n (sumP (mine (Value.slice (some ⟨g, o0, none⟩) m cap)) (fun i => if i = qq then B else Ss i) l.length)).setCon n (.deep T0 dr l' h')) F w' dr h') (lh := lh) (l := l) (Ss := Ss) (j := qq) (x' := q.lo.set lh[qq] u) (x := x1) (B := B)
      (fun i2 c1 c2 hne => hoth hne ((hrels i2 c1 c2).keep hle1 hst (hblk i2 c2))) (b2 hle1) i' a (by simpa [hl'] using b)
    simpa only [hl'] using this
  · rw [hlen']
    exact hparts.less qq b1

theorem HRel.at_leaf {d : DR} {h : Option Hole} {i : Nat} {x' : d.low.den} {x : d.row.den} {S : Nat → Prop} {r : Row} (q : DPath d (.leaf r)) (y : r.den) (hr : HRel H F w d h i x' x S) : HRel H F w d h i (q.lo.set x' y) (q.hi.set x y) S := leaf_putR q y hr

theorem eStoreD_ok (T : Tabs P) {t : TypeId} {D V : Desc} {x y : Operand} {k : Eff → Option R} {q : R} (h : eStoreD T ob n t D V k = some q) (hs : ObSat U H F w ob n) (hx : DescOK H F w D (ev ρ x)) (hy : DescOK H F w V (ev ρ y)) :
    ∃ e, k e = some q ∧ Says P U H F w ρ ob n ⟨none, .store t x y, ty, pos, aft, none⟩ e := by
  unfold eStoreD at h
  split at h
  · cases h
  rename_i rt hrt
  split at h
  case h_2 => cases h
  rename_i agg u
  split at h
  case h_2 => cases h
  rename_i o d0 i p off
  split at h
  case h_2 => cases h
  rename_i s T0 dr l hh hob
  obtain ⟨hd, h'⟩ := bif_eq h
  clear h
  obtain rfl := DR.eq_of_beq hd
  obtain ⟨g, o0, qq, m, cap, e1, e2, e5⟩ := hx
  obtain ⟨cs, hcs, hve⟩ := ValOK.cells hy
  split at h'
  · rename_i r pth hpth
    obtain ⟨h1, h2⟩ := bif_eq h'
    obtain ⟨h1, h3⟩ := and2 h1
    obtain rfl := beq_true h1
    split at h2
    case h_2 => cases h2
    rename_i z hz
    obtain ⟨a, ha, hk⟩ := bind_some h2
    obtain ⟨j, hj, hjl, rfl⟩ := idx_some ha
    refine ⟨_, hk, deep_store (l' := setL l i (pth.hi.set l[j] z)) (x1 := pth.hi.set l[j] z) (u := z) T hrt hs hob e1 hj hjl e5 e2 (beq_true h3) (flat_ok hs hz hcs) hve ?_ ?_ ?_⟩
    · unfold setL; rw [hj, Int.toNat_natCast]
    · intro w' H1 hle hst x' S hb hr
      exact ⟨S, fun _ h => h, leaf_putR pth z (hr.keep hle hst hb)⟩
    · intro H1 w' i' x' x S _ hr
      exact hr
  · rename_i T' e' pth hpth
    obtain ⟨h1, h2⟩ := bif_eq h'
    obtain ⟨h1, h3⟩ := and2 h1
    obtain rfl := beq_true h1
    split at h2
    · rename_i o1
      split at h2
      case h_2 => cases h2
      rename_i s1 t1 hob1
      split at h2
      case h_2 => cases h2
      rename_i y1 hD
      split at h2
      case isFalse => cases h2
      rename_i hhole
      obtain ⟨a, ha, hk⟩ := bind_some h2
      obtain ⟨j, hj, hjl, rfl⟩ := idx_some ha
      obtain ⟨u1, hu1, hin1⟩ := hs.obj _ _ _ hob1
      obtain ⟨v, hv, hone, rfl⟩ := hcs
      rw [hu1] at hv
      obtain rfl := Option.some.inj hv
      have hhdr : Rep F w .hdr [u1] u1 := by
        have := hin1.ok
        rw [asD_ok hD] at this
        obtain ⟨lh1, _, g1, _⟩ := mkD_back this
        obtain ⟨xs, ⟨_, hx⟩, _⟩ := g1
        rcases hx with ⟨rfl, _⟩ | ⟨gg, o0, cp, cur, rfl, _⟩ <;> exact ⟨rfl, _, _, _, rfl⟩
      refine ⟨_, hk, deep_store (l' := l) (x1 := l[j]) (u := u1) (e := .sl T' e') T hrt hs hob e1 hj hjl e5 e2 (beq_true h3) hhdr hve ?_ ?_ ?_⟩
      · exact (List.set_getElem_self hjl).symm
      · intro w' H1 hle hst x' S hb hr
        obtain ⟨B, b1, b2⟩ := hole_out hhole hpth hj hr
        refine ⟨B, b1, fun hne => absurd hj hne, fun _ => ⟨T', e', pth, hpth, (b2.keep hst fun k hk => hb k (b1 k hk)).setLo pth u1, ?_⟩⟩
        rw [Path.get_set]
        exact hle.val _ _ hu1
      · intro H1 w' i' x' x S hne hr
        have hne' : i ≠ (i' : Int) := fun e => hne (by omega)
        exact ⟨fun _ => hole_other hhole hne' hr, fun e => absurd e hne'⟩
    · split at h2
      case isFalse => cases h2
      rename_i hhole
      obtain ⟨a, ha, hk⟩ := bind_some h2
      obtain ⟨j, hj, hjl, rfl⟩ := idx_some ha
      have hcs' : cs = _ := hcs
      subst hcs'
      refine ⟨_, hk, deep_store (x1 := pth.hi.set l[j] ([] : List e'.row.den)) (u := Value.slice none 0 0) (e := .sl T' e') T hrt hs hob e1 hj hjl e5 e2 (beq_true h3) ⟨rfl, _, _, _, rfl⟩ hve ?_ ?_ ?_⟩
      · unfold setL; rw [hj, Int.toNat_natCast]
      · intro w' H1 hle hst x' S hb hr
        obtain ⟨B, b1, b2⟩ := hole_out hhole hpth hj hr
        refine ⟨B, b1, ?_⟩
        refine DOut.put (e := .sl T' e') pth (b2.keep hst fun k hk => hb k (b1 k hk)) (A := fun _ => False) ?_ ⟨fun k => by simp, fun _ h => h.elim⟩
        exact ⟨[], fun _ _ => False, OwnM.nil F w' T' e'.low, rfl, fun i h => absurd h (by simp), ⟨fun k => by simp [mine, Value.ownBlock], fun _ _ _ h => absurd h (by simp), fun _ _ h => absurd h (by simp)⟩⟩
      · intro H1 w' i' x' x S hne hr
        have hne' : i ≠ (i' : Int) := fun e => hne (by omega)
        exact hole_other hhole hne' hr
    · cases h2
  · cases h'
end
end Go.Proofs.YtjeeligfdpociaaGreat

namespace Go.Proofs.YtjeeligfdpociaaGreat
open Go Go.RowKit

def modL {α : Type} (l : List α) (i : Int) (f : α → α) : List α := if 0 ≤ i then l.modify i.toNat f else l
theorem modL_length {α : Type} (l : List α) (i : Int) (f : α → α) : (modL l i f).length = l.length := by unfold modL; split <;> simp
theorem modL_at {α : Type} {l : List α} {i : Int} {f : α → α} {j : Nat} (h : j < (modL l i f).length) (h' : j < l.length) : (modL l i f)[j] = if i = (j : Int) then f l[j] else l[j] := by
  by_cases hi : 0 ≤ i
  · have e : modL l i f = l.modify i.toNat f := by unfold modL; rw [if_pos hi]
    simp only [e, List.getElem_modify]
    by_cases hij : i = (j : Int)
    · rw [if_pos hij, if_pos (by omega)]
    · rw [if_neg hij, if_neg (by omega)]
  · have e : modL l i f = l := by unfold modL; rw [if_neg hi]
    simp only [e]
    rw [if_neg (by omega)]

theorem Path.set_get : {r s : Row} → (p : Path r s) → (x : r.den) → p.set x (p.get x) = x
  | _, _, .here, _ => rfl
  | _, _, .fst p, x => by show (p.set x.1 (p.get x.1), x.2) = x; rw [Path.set_get p]
  | _, _, .snd p, x => by show (x.1, p.set x.2 (p.get x.2)) = x; rw [Path.set_get p]

section
variable {P : Program} {ρ : Nat → Value} {w w' : World} {H H' : Hist} {F F' : Nat → Prop} {U : Nat → Prop} {ob : Nat → Option (Nat × Th)} {n : Nat} {R : Type}
variable {op : Op} {ty : TypeId} {pos : String} {aft : Array Edge} {d : Nat}

def mendE (ob : Nat → Option (Nat × Th)) (n o : Nat) : Option Eff :=
  match ob o with
  | some (_, .deep T0 dr l (some h)) => match dr.path h.p with
    | some ⟨.sl T' e', q⟩ => match ob h.o with
      | some (_, t1) => bif Nat.beq h.o o then none else (match asD T' e' t1 with
        | some y => some { dst := .dead, eat := [o, h.o], make := [(o, (n, .deep T0 dr (modL l h.i fun x => q.hi.set x y) none))] }
        | none => none)
      | none => none
    | _ => none
  | _ => none

theorem mend_post (hs : ObSat U H F w ob n) {o : Nat} {e : Eff} (h : mendE ob n o = some e) : PostE H F w ob n e undef w := by
  unfold mendE at h
  split at h
  case h_2 => cases h
  rename_i s T0 dr l hh hob
  split at h
  case h_2 => cases h
  rename_i T' e' q hq
  split at h
  case h_2 => cases h
  rename_i s1 t1 hob1
  cases hne : Nat.beq hh.o o with
  | true => rw [hne] at h; cases h
  | false =>
    rw [hne, cond_false] at h
    have hne : o ≠ hh.o := fun e => by rw [e] at hne; simp at hne
    split at h
    case h_2 => cases h
    rename_i y hD
    obtain rfl := Option.some.inj h
    have hD := asD_ok hD
    subst hD
    obtain ⟨v, hv, hin⟩ := hs.obj _ _ _ hob
    obtain ⟨u, hu, hin1⟩ := hs.obj _ _ _ hob1
    obtain ⟨lh, Ss, hown, hlen, hrel, hparts⟩ := hs.low hob hv
    have hA := mkD_back hin1.ok
    generalize hAA : (fun k => fp (H.sub s1) u (mkD T' e' y) k) = A at hA
    have hAd : ∀ k, A k → ¬ H.sub s k := fun k hk => by
      rw [← hAA] at hk
      exact fun h2 => hs.apart _ _ _ _ _ _ _ _ hne hob hob1 hv hu k h2 hk
    have hf := hs.fresh n (Nat.le_refl _) (by omega)
    let Ss' : Nat → Nat → Prop := fun i k => Ss i k ∨ (hh.i = (i : Int) ∧ A k)
    have heat : ∀ k, H.sub s k ∨ A k → eaten H ob [o, hh.o] k := by
      rintro k (hk | hk)
      · exact ⟨o, by simp, s, _, v, hob, hv, hk⟩
      · rw [← hAA] at hk
        exact ⟨hh.o, by simp, s1, _, u, hob1, hu, hk⟩
    have hS : ∀ k, sumP (mine v) Ss' l.length k → H.sub s k ∨ A k := by
      rintro k (hk | ⟨i, hi, hk | hk⟩)
      · exact .inl (hparts.mine k hk)
      · exact .inl (hparts.part hi k hk)
      · exact .inr hk.2
    refine Post.remake (t' := .deep T0 dr (modL l hh.i fun x => q.hi.set x y) none) hs hob hv rfl (by simp) (sumP (mine v) Ss' l.length) (fun k hk => heat k (hS k hk)) ⟨rfl, rfl, rfl, Nat.le_refl _, fun _ _ _ => rfl⟩ ?_ trivial
    have hlen' : (modL l hh.i fun x => q.hi.set x y).length = l.length := modL_length ..
    refine ⟨lh, Ss', hown.2, by rw [hlen']; exact hlen, fun i a b => ?_, ?_⟩
    · have b' : i < l.length := by omega
      rw [modL_at b b']
      have hr := hrel i a b'
      by_cases hi : hh.i = (i : Int)
      · rw [if_pos hi]
        obtain ⟨T'', e'', q'', k1, k2, k3⟩ := hr.2 hi
        rw [hq] at k1
        cases k1
        rw [hu] at k3
        have k3 := Option.some.inj k3
        have : DEl F w dr (q.lo.set lh[i] u) (q.hi.set l[i] y) (Ss' i) := k2.put q hA ⟨fun k => ⟨fun hk => hk.elim .inr fun hk => .inl hk.2, fun hk => hk.elim (fun hk => .inr ⟨hi, hk⟩) .inl⟩, fun k hk h2 => hAd k hk (hparts.part b' k h2)⟩
        rw [k3, Path.set_get] at this
        exact this
      · rw [if_neg hi]
        have hr1 := hr.1 hi
        have : Ss' i = Ss i := by
          funext k
          exact propext ⟨fun hk => hk.elim id fun hk => absurd hk.1 hi, .inl⟩
        rw [this]
        exact hr1
    · rw [hlen']
      refine ⟨fun k => Iff.rfl, fun i j k h1 h2 hij h3 h4 => ?_, fun i k h1 h3 h4 => ?_⟩
      · rcases h3 with h3 | h3 <;> rcases h4 with h4 | h4
        · exact hparts.two i j k h1 h2 hij h3 h4
        · exact hAd k h4.2 (hparts.part h1 k h3)
        · exact hAd k h3.2 (hparts.part h2 k h4)
        · have := h3.1; have := h4.1; omega
      · rcases h3 with h3 | h3
        · exact hparts.out i k h1 h3 h4
        · exact hAd k h3.2 (hparts.mine k h4)
end
end Go.Proofs.YtjeeligfdpociaaGreat
