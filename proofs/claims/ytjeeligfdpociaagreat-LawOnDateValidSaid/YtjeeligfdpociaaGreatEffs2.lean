/- More rules: stores, new objects, literals, append. -/
import Derived.Test.YtjeeligfdpociaaGreatEffs
namespace Go.Proofs.YtjeeligfdpociaaGreat
open Go Go.RowKit

def toPath : (r : Row) → List Bool → Option ((s : Row) × Path r s)
  | r, [] => some ⟨r, .here⟩
  | .pair a b, d :: p => match d with
    | false => match toPath a p with
      | some ⟨s, q⟩ => some ⟨s, .fst q⟩
      | none => none
    | true => match toPath b p with
      | some ⟨s, q⟩ => some ⟨s, .snd q⟩
      | none => none
  | _, _ :: _ => none

section
variable {P : Program} {ρ : Nat → Value} {w w' : World} {H H' : Hist} {F F' : Nat → Prop} {U : Nat → Prop} {ob : Nat → Option (Nat × Th)} {n : Nat} {R : Type}
variable {op : Op} {ty : TypeId} {pos : String} {aft : Array Edge} {d : Nat}

def Hist.setCon (H : Hist) (s : Nat) (t : Th) : Hist := ⟨H.val, fun m => if m = s then some t else H.con m, H.sub⟩
def Hist.setVal (H : Hist) (o : Nat) (v : Value) : Hist := ⟨fun m => if m = o then some v else H.val m, H.con, H.sub⟩
/-- The blocks of what is deep, at stamp s. -/
def Hist.setSub (H : Hist) (s : Nat) (S : Nat → Prop) : Hist := ⟨H.val, H.con, fun m => if m = s then S else H.sub m⟩

theorem Hist.le_setCon {H : Hist} {s : Nat} {t : Th} (h : H.con s = none) : H.le (H.setCon s t) := ⟨fun _ _ h => h, fun m q hq => by
  by_cases e : m = s
  · subst e; rw [h] at hq; cases hq
  · simp [Hist.setCon, e, hq], fun _ _ _ => rfl⟩
theorem Hist.le_setSub {H : Hist} {s : Nat} {S : Nat → Prop} (h : H.con s = none) : H.le (H.setSub s S) := ⟨fun _ _ h => h, fun _ _ h => h, fun m t hm => by
  have : m ≠ s := fun e => by rw [e, h] at hm; cases hm
  simp [Hist.setSub, this]⟩
theorem Hist.le_setVal {H : Hist} {s : Nat} {t : Value} (h : H.val s = none) : H.le (H.setVal s t) := ⟨fun m q hq => by
  by_cases e : m = s
  · subst e; rw [h] at hq; cases hq
  · simp [Hist.setVal, e, hq], fun _ _ h => h, fun _ _ _ => rfl⟩

theorem find_one {α : Type} {o o' : Nat} {x y : α} (h : find [(o, x)] o' = some y) : o' = o ∧ y = x := by
  rw [find_cons] at h
  split at h
  · rename_i e; exact ⟨e.symm, (Option.some.inj h).symm⟩
  · cases h

/-- An object that is changed in place. -/
theorem Post.inplace (hs : ObSat U H F w ob n) {o s : Nat} {t t' : Th} {v0 : Value} (ho : ob o = some (s, t)) (hv : H.val o = some v0) (hb : t'.base = t') (hfp : ∀ k, fp (H.sub n) v0 t' k → fp (H.sub s) v0 t k) {D : Desc} {v : Value}
    (hext : Ext (fp (H.sub s) v0 t) w w') (hok : ThOK (H.setCon n t') F w' (H.sub n) v0 t') (hd : DescOK (H.setCon n t') F w' D v) : PostE H F w ob n { dst := D, eat := [o], make := [(o, (n, t'))] } v w' := by
  obtain ⟨v1, hv1, hin⟩ := hs.obj _ _ _ ho
  rw [hv] at hv1
  obtain rfl := Option.some.inj hv1
  have heat : ∀ k, fp (H.sub s) v0 t k → eaten H ob [o] k := fun k hk => ⟨o, by simp, s, t, v0, ho, hv, hk⟩
  refine ⟨H.setCon n t', F, ⟨Hist.le_setCon (hs.fresh n (Nat.le_refl _) (by omega)).2, ⟨hext.os, hext.tape, hext.output, hext.size, fun k hk hn => hext.block k hk fun e => hn (heat k e)⟩, fun _ h => h, fun _ h => .inl h, fun b hb => Nat.lt_of_lt_of_le (hs.lt b hb) hext.size⟩, fun m hm => ?_, hd, ⟨fun o' s' q hq => ?_, fun o1 o2 s1 s2 q1 q2 u1 u2 hne h1 h2 => ?_⟩, fun o' h => ?_⟩
  · refine ⟨id, fun h => ?_⟩
    simp [Hist.setCon, show m ≠ n from by omega, h]
  · obtain ⟨rfl, e⟩ := find_one hq
    obtain ⟨rfl, rfl⟩ := Prod.mk.inj e
    refine ⟨v0, hv, hin.one, by simp [Hist.setCon, hb], hok, fun k hk => ⟨hin.no k (hfp k hk), Nat.lt_of_lt_of_le (hin.lt k (hfp k hk)) hext.size, .inr (heat k (hfp k hk))⟩⟩
  · exact absurd ((find_one h1).1.trans (find_one h2).1.symm) hne
  · left
    obtain ⟨y, hy⟩ := Option.isSome_iff_exists.1 h
    rw [(find_one hy).1]
    simp

/-- A new object: id and stamp n. -/
theorem Post.new (hs : ObSat U H F w ob n) {eat : List Nat} {t : Th} {v0 : Value} (hb : t.base = t) (h1 : v0.oneCell' = true) {D : Desc} {v : Value}
    (hext : Ext (eaten H ob eat) w w') (hok : ThOK ((H.setCon n t).setVal n v0) F w' (H.sub n) v0 t) (hfp : ∀ k, fp (H.sub n) v0 t k → ¬ F k ∧ k < w'.heap.size ∧ (w.heap.size ≤ k ∨ eaten H ob eat k))
    (hd : DescOK ((H.setCon n t).setVal n v0) F w' D v) : PostE H F w ob n { dst := D, eat := eat, make := [(n, (n, t))] } v w' := by
  have hf := hs.fresh n (Nat.le_refl _) (by omega)
  refine ⟨(H.setCon n t).setVal n v0, F, ⟨(Hist.le_setCon hf.2).trans (Hist.le_setVal (by simp [Hist.setCon, hf.1])), hext, fun _ h => h, fun _ h => .inl h, fun b hb => Nat.lt_of_lt_of_le (hs.lt b hb) hext.size⟩, fun m hm => ?_, hd, ⟨fun o' s' q hq => ?_, fun o1 o2 s1 s2 q1 q2 u1 u2 hne h1 h2 => ?_⟩, fun o' h => ?_⟩
  · simp [Hist.setCon, Hist.setVal, show m ≠ n from by omega]
  · obtain ⟨rfl, e⟩ := find_one hq
    obtain ⟨rfl, rfl⟩ := Prod.mk.inj e
    exact ⟨v0, by simp [Hist.setVal], h1, by simp [Hist.setCon, Hist.setVal, hb], hok, hfp⟩
  · exact absurd ((find_one h1).1.trans (find_one h2).1.symm) hne
  · right
    obtain ⟨y, hy⟩ := Option.isSome_iff_exists.1 h
    rw [(find_one hy).1]
    exact Nat.le_refl _

/-! ## Stores -/
def eStore (T : Tabs P) (ob : Nat → Option (Nat × Th)) (n : Nat) (t : TypeId) (D V : Desc) (k : Eff → Option R) : Option R :=
  match find T.row t with
  | none => none
  | some rt => match V with
    | .val _ u => match D with
      | .ptr o p off => match ob o with
        | some (_, .box T0 tr) => match tr.get p with
          | some (s, off') => bif Nat.beq off' off && Nat.beq rt.size s.size && Nat.beq u.size s.size then
              (match tr.put p u with
              | some tr' => k { dst := .dead, eat := [o], make := [(o, (n, .box T0 tr'))] }
              | none => none) else none
          | none => none
        | _ => none
      | .elem o s r i x p off => match ob o with
        | some (s', .own T0 r' l) => match toPath r' p with
          | some ⟨q, pth⟩ => bif Nat.beq pth.off off && Nat.beq rt.size q.size && Nat.beq r'.size r.size then
              (match flat ob q u with
              | some y => bif Nat.beq s' s then
                  (if h : r.beq r' = true then k { dst := .dead, eat := [o], make := [(o, (n, .own T0 r' (setL l i (pth.set (castR (Row.eq_of_beq h) x) y))))] } else none)
                else (idx l i).bind fun x' => k { dst := .dead, eat := [o], make := [(o, (n, .own T0 r' (setL l i (pth.set x' y))))] }
              | none => none) else none
          | none => none
        | _ => none
      | _ => none
    | _ => none

theorem ValOK.cells {agg : Bool} {t : Tree} {v : Value} (h : ValOK H F w agg t v) : ∃ cs, Holds H F w t cs ∧ v.cells.toList = cs := by
  obtain ⟨cs, h1, h2, h3⟩ := h
  refine ⟨cs, h1, ?_⟩
  cases agg with
  | true => rw [h2]; rfl
  | false =>
    have e := h3 rfl
    have h1c := h1.oneCell v (by rw [e]; simp)
    rw [e]
    cases v <;> first | rfl | simp [Value.oneCell'] at h1c

theorem elem_store (T : Tabs P) {t : TypeId} {rt : Row} (hrt : find T.row t = some rt) {x y : Operand} {o s' : Nat} {T0 : TypeId} {r q : Row} {i : Int} {x' : r.den} {z : q.den} {l : List r.den} {p : Path r q} {off g o0 j m cap : Nat} {agg : Bool} {u : Tree}
    (hs : ObSat U H F w ob n) (hob : ob o = some (s', .own T0 r l)) (hv : H.val o = some (.slice (some ⟨g, o0, none⟩) m cap)) (hj : i = (j : Nat)) (hi : idx l i = some x') (hx : ev ρ x = .pointer (some ⟨g, o0 + j * r.size + off, none⟩)) (hoff : p.off = off) (hz : rt.size = q.size)
    (hf : flat ob q u = some z) (hV : ValOK H F w agg u (ev ρ y)) :
    Says P U H F w ρ ob n ⟨none, .store t x y, ty, pos, aft, none⟩ { dst := .dead, eat := [o], make := [(o, (n, .own T0 r (setL l i (p.set x' z))))] } := by
  obtain ⟨ti, z0, h1, _, _, h4, _⟩ := T.row_ok _ _ hrt
  obtain ⟨cs, hcs, hve⟩ := hV.cells
  have hr := flat_ok hs hf hcs
  have hown := hs.own hob hv
  obtain ⟨k', hk, hlt, rfl⟩ := idx_some hi
  obtain rfl : k' = j := by omega
  obtain ⟨cur, hh, hle, hext, hown'⟩ := hown.put rfl hlt hs.lt p hr
  subst hoff
  refine RunsTo.unit (run_storeRow h1 (h4.trans (hz.trans hr.length.symm)) hx rfl hve hr.oneCell hh hle) ?_
  refine Post.inplace (t' := .own T0 r (setL l i (p.set l[k'] z))) (D := .dead) hs hob hv rfl (fun _ h => h) hext ?_ trivial
  have : ThOK (H.setCon n (.own T0 r (setL l i (p.set l[k'] z)))) F (w.setRow g (cur.toList.take (o0 + k' * r.size + p.off) ++ cs ++ cur.toList.drop (o0 + k' * r.size + p.off + cs.length)).toArray) (H.sub n) (.slice (some ⟨g, o0, none⟩) m cap) (.own T0 r (l.set k' (p.set l[k'] z))) := hown'.2
  unfold setL
  rw [hk, Int.toNat_natCast]
  exact this

theorem eStore_ok (T : Tabs P) {t : TypeId} {D V : Desc} {x y : Operand} {k : Eff → Option R} {q : R} (h : eStore T ob n t D V k = some q) (hs : ObSat U H F w ob n) (hx : DescOK H F w D (ev ρ x)) (hy : DescOK H F w V (ev ρ y)) :
    ∃ e, k e = some q ∧ Says P U H F w ρ ob n ⟨none, .store t x y, ty, pos, aft, none⟩ e := by
  unfold eStore at h
  split at h
  · cases h
  rename_i rt hrt
  split at h
  case h_2 => cases h
  rename_i agg u
  split at h
  · rename_i o p off
    split at h
    case h_2 => cases h
    rename_i s0 T0 tr hob
    split at h
    case h_2 => cases h
    rename_i s off' hg
    obtain ⟨h1, h2⟩ := bif_eq h
    obtain ⟨h1, hz2⟩ := and2 h1
    obtain ⟨h1, hz1⟩ := and2 h1
    obtain rfl := beq_true h1
    have hz1 := beq_true hz1
    have hz2 := beq_true hz2
    split at h2
    case h_2 => cases h2
    rename_i tr' hp
    obtain ⟨b, hb, e⟩ := hx
    obtain ⟨es, hh, hho⟩ := hs.box hob hb
    obtain ⟨cs, hcs, hve⟩ := ValOK.cells hy
    have hl := hcs.length
    have hle := (hho.get hg).2
    have hput := Holds.put hcs hg hp hz2.symm hho
    obtain ⟨ti, z0, g1, _, _, g4, _⟩ := T.row_ok _ _ hrt
    refine ⟨_, h2, RunsTo.unit (run_storeRow g1 (by omega) e rfl hve hcs.oneCell hh (by simp; omega)) ?_⟩
    have hnb : ¬ F b := by
      obtain ⟨v1, hv1, hin⟩ := hs.obj _ _ _ hob
      rw [hb] at hv1
      obtain rfl := Option.some.inj hv1
      exact hin.no b rfl
    have hext : Ext (fp (H.sub s0) (.pointer (some ⟨b, 0, none⟩)) (.box T0 tr)) w (w.setRow b (es.toArray.toList.take off' ++ cs ++ es.toArray.toList.drop (off' + cs.length)).toArray) :=
      ⟨rfl, rfl, rfl, by simp, fun k _ hk => setRow_other w b k _ fun e => hk (by simp [fp, e])⟩
    refine Post.inplace (t' := .box T0 tr') (D := .dead) hs hob hb rfl (fun k hk => hk) hext ⟨b, _, rfl, setRow_heap w b _ _ T0 (0, 0) hh, ?_⟩ trivial
    have hk := hput.keep (H' := H.setCon n (.box T0 tr')) (Hist.le_setCon (hs.fresh n (Nat.le_refl _) (by omega)).2) (Step.ext hext hs.lt fun k hk => by
      simp only [fp, Value.pointer.injEq, Option.some.injEq, Addr.mk.injEq, and_true] at hk
      exact hk ▸ hnb)
    rw [← hl] at hk
    simpa using hk
  · rename_i o s r i x0 p off
    split at h
    case h_2 => cases h
    rename_i s' T0 r' l hob
    split at h
    case h_2 => cases h
    rename_i q' pth hpth
    obtain ⟨h1, h2⟩ := bif_eq h
    obtain ⟨h1, hz2⟩ := and2 h1
    obtain ⟨h1, hz1⟩ := and2 h1
    have h1 := beq_true h1
    have hz1 := beq_true hz1
    have hz2 := beq_true hz2
    split at h2
    case h_2 => cases h2
    rename_i z hf
    obtain ⟨g, o0, qq, T', m, cap, l0, e1, e2, e3, e4, e5⟩ := hx
    rw [← hz2] at e5
    cases hss : Nat.beq s' s with
    | true =>
      rw [hss, cond_true] at h2
      obtain rfl := beq_true hss
      split at h2
      case isFalse => cases h2
      rename_i hbeq
      obtain ⟨v, hv, hin⟩ := hs.obj _ _ _ hob
      have hc := hin.con
      rw [e3] at hc
      obtain ⟨rfl, hc2⟩ : T' = T0 ∧ (⟨r, l0⟩ : (r : Row) × List r.den) = ⟨r', l⟩ := by
        have := Option.some.inj hc
        simp only [Th.base, Th.own.injEq] at this
        obtain ⟨a, b, c⟩ := this
        subst b
        exact ⟨a, by rw [eq_of_heq c]⟩
      cases hc2
      exact ⟨_, h2, elem_store T hrt hs hob e1 e2 e4 e5 h1 hz1 hf hy⟩
    | false =>
      rw [hss, cond_false] at h2
      obtain ⟨x', hx', h2⟩ := bind_some h2
      exact ⟨_, h2, elem_store T hrt hs hob e1 e2 hx' e5 h1 hz1 hf hy⟩
  · cases h

/-! ## New variables -/
theorem newbox (hs : ObSat U H F w ob n) {t : TypeId} {tr : Tree} {cs : List Value} (hh : Holds H F w tr cs) :
    PostE H F w ob n { dst := .ptr n [] 0, make := [(n, (n, .box t tr))] } (.pointer (some ⟨w.heap.size, 0, none⟩)) (w.alloc (.cells cs.toArray t)) := by
  have hext : Ext (eaten H ob []) w (w.alloc (.cells cs.toArray t)) := ⟨rfl, rfl, rfl, by simp, fun k hk _ => Below.heap_alloc w _ k hk⟩
  have hf := hs.fresh n (Nat.le_refl _) (by omega)
  refine Post.new (v0 := .pointer (some ⟨w.heap.size, 0, none⟩)) hs rfl rfl hext ⟨_, cs, rfl, heap_alloc_new w _, ?_⟩ (fun k hk => ?_) ⟨w.heap.size, by simp [Hist.setVal], rfl⟩
  · exact hh.keep ((Hist.le_setCon hf.2).trans (Hist.le_setVal (by simp [Hist.setCon, hf.1]))) (Step.alloc hs.lt _)
  · simp only [fp, Value.pointer.injEq, Option.some.injEq, Addr.mk.injEq, and_true] at hk
    subst hk
    exact ⟨fun e => by have := hs.lt _ e; omega, by simp, .inl (Nat.le_refl _)⟩

def eAlloc (T : Tabs P) (n : Nat) (t : TypeId) (k : Eff → Option R) : Option R :=
  match find T.row t with
  | some r => k { dst := .ptr n [] 0, make := [(n, (n, .box t r.ztree))] }
  | none => none
theorem eAlloc_ok (T : Tabs P) {t : TypeId} {k : Eff → Option R} {q : R} (h : eAlloc T n t k = some q) (hs : ObSat U H F w ob n) :
    ∃ e, k e = some q ∧ Says P U H F w ρ ob n ⟨some d, .alloc t, ty, pos, aft, none⟩ e := by
  unfold eAlloc at h
  split at h
  case h_2 => cases h
  rename_i r hr
  obtain ⟨ti, z, h1, h2, h3, _, _⟩ := T.row_ok _ _ hr
  refine ⟨_, h, RunsTo.val (run_alloc h1 h2) ?_⟩
  have := newbox (t := t) hs (Row.ztree_holds H F w r)
  rw [← h3, Array.toArray_toList] at this
  exact this

def eBox (n : Nat) (t : TypeId) (V : Desc) (k : Eff → Option R) : Option R :=
  match V with
  | .val _ u => k { dst := .ptr n [] 0, make := [(n, (n, .box t u))] }
  | _ => none
theorem eBox_ok {t : TypeId} {V : Desc} {x : Operand} {k : Eff → Option R} {q : R} (h : eBox n t V k = some q) (hs : ObSat U H F w ob n) (hx : DescOK H F w V (ev ρ x)) :
    ∃ e, k e = some q ∧ Says P U H F w ρ ob n ⟨some d, .box t x, ty, pos, aft, none⟩ e := by
  unfold eBox at h
  split at h
  case h_2 => cases h
  rename_i agg u
  obtain ⟨cs, hcs, hve⟩ := ValOK.cells hx
  refine ⟨_, h, RunsTo.val (run_box rfl) ?_⟩
  have := newbox (t := t) hs hcs
  rw [← hve, Array.toArray_toList] at this
  exact this
end
end Go.Proofs.YtjeeligfdpociaaGreat
