/- More rules: elements stored, literals, results in variables, slices of slices. -/
import Derived.Test.YtjeeligfdpociaaGreatMore
namespace Go.Proofs.YtjeeligfdpociaaGreat
open Go Go.RowKit

theorem EqOK.lift {P : Program} {t : TypeId} {r : Row} {K : Nat} (h : EqOK P t r K) (m : Nat) : EqOK P t r (K + m) := by
  intro d w2 w F cs cs' x y v v' h1 h2 h3 h4
  have := h (d + m) w2 w F cs cs' x y v v' h1 h2 h3 h4
  rwa [show d + m + K = d + (K + m) from by omega] at this

/-! ## An element of a slice of the call's own is stored -/
section
variable {P : Program} {n : Nat} {ops : Array Oper} {K : (Nat → Value) → World → Prop} {rest : List Oper} {ρ : Nat → Value} {w : World} {F : Nat → Prop} {base : Nat}
variable {d : Nat} {ty : TypeId} {pos : String} {aft : Array Edge} {x y : Operand} {t e : TypeId} {r s : Row}

def setL {α : Type} (l : List α) (i : Int) (y : α) : List α := l.set i.toNat y

theorem Own.put {g o0 m0 cap0 q : Nat} {v : Value} {l : List r.den} (h : Own base F w e r v l) (hg : v = .slice (some ⟨g, o0, none⟩) m0 cap0) (hq : q < l.length) (hF : ∀ b, F b → b < w.heap.size) (p : Path r s) {vs : List Value} {u : s.den} (hv : Rep F w s vs u) :
    ∃ cur, w.heap[g]? = some (.cells cur e (0, 0)) ∧ o0 + q * r.size + p.off + vs.length ≤ cur.size ∧
      Ext (mine v) w (w.setRow g (cur.toList.take (o0 + q * r.size + p.off) ++ vs ++ cur.toList.drop (o0 + q * r.size + p.off + vs.length)).toArray) ∧
      Own base F (w.setRow g (cur.toList.take (o0 + q * r.size + p.off) ++ vs ++ cur.toList.drop (o0 + q * r.size + p.off + vs.length)).toArray) e r v (l.set q (p.set l[q] u)) := by
  obtain ⟨hno, xs, ⟨hxl, hx⟩, h3⟩ := h
  rcases hx with ⟨rfl, _⟩ | ⟨g', o1, cap, cur, rfl, hb, hh, h1, h2, hcs, htake⟩
  · simp at hg
  · simp only [Value.slice.injEq, Option.some.injEq, Addr.mk.injEq, and_true] at hg
    obtain ⟨⟨rfl, rfl⟩, rfl, rfl⟩ := hg
    have hle := p.le
    have hl := hv.length
    have hmul : (q + 1) * r.size ≤ l.length * r.size := Nat.mul_le_mul_right _ hq
    rw [Nat.add_mul] at hmul
    have hcap : l.length * r.size ≤ cap * r.size := Nat.mul_le_mul_right _ h1
    have hext : Ext (mine (.slice (some ⟨g', o1, none⟩) l.length cap)) w (w.setRow g' (cur.toList.take (o1 + q * r.size + p.off) ++ vs ++ cur.toList.drop (o1 + q * r.size + p.off + vs.length)).toArray) :=
      ⟨rfl, rfl, rfl, by simp, fun k _ hk => setRow_other w g' k _ fun e => hk (by simp [mine, Value.ownBlock, e])⟩
    have hstep := Step.ext hext hF hno
    refine ⟨cur, hh, by omega, hext, hno, xs.take (q * r.size + p.off) ++ vs ++ xs.drop (q * r.size + p.off + vs.length), ⟨by simp; omega, .inr ⟨g', o1, cap, _, by simp, hb, setRow_heap w g' _ _ e (0, 0) hh, by simpa using h1, h2, by simp; omega, ?_⟩⟩, ?_⟩
    · rw [List.length_set, List.toList_toArray, ← htake]
      have e0 : (cur.toList.take (o1 + q * r.size + p.off) ++ vs ++ cur.toList.drop (o1 + q * r.size + p.off + vs.length)).drop o1 = (cur.toList.drop o1).take (q * r.size + p.off) ++ vs ++ (cur.toList.drop o1).drop (q * r.size + p.off + vs.length) := by
        rw [List.append_assoc, List.drop_append_of_le_length (by simp; omega), List.drop_take, List.drop_drop, show o1 + q * r.size + p.off - o1 = q * r.size + p.off by omega, List.append_assoc, show o1 + q * r.size + p.off + vs.length = o1 + (q * r.size + p.off + vs.length) by omega]
      rw [e0]
      have hc2 : cap * r.size ≤ (cur.toList.drop o1).length := by simp; omega
      generalize cur.toList.drop o1 = c2 at *
      have e1 : (c2.take (l.length * r.size)).take (q * r.size + p.off) = c2.take (q * r.size + p.off) := by rw [List.take_take, Nat.min_eq_left (by omega)]
      rw [e1, List.take_append, List.take_of_length_le (by simp; omega), List.drop_take]
      congr 1
      simp
      congr 1
      omega
    · intro i hi'
      have hi : i < l.length := by simpa using hi'
      have hmi : (i + 1) * r.size ≤ l.length * r.size := Nat.mul_le_mul_right _ hi
      rw [Nat.add_mul] at hmi
      have A : ∀ j, j < r.size → ((xs.take (q * r.size + p.off) ++ vs ++ xs.drop (q * r.size + p.off + vs.length)))[i * r.size + j]? =
          if i * r.size + j < q * r.size + p.off then xs[i * r.size + j]? else if i * r.size + j < q * r.size + p.off + vs.length then vs[i * r.size + j - (q * r.size + p.off)]? else xs[i * r.size + j]? := by
        intro j hj
        rw [List.append_assoc, List.getElem?_append]
        simp only [List.length_take, hxl, Nat.min_eq_left (show q * r.size + p.off ≤ l.length * r.size from by omega)]
        split
        · rw [List.getElem?_take, if_pos (by assumption)]
        · rw [List.getElem?_append]
          split
          · rename_i h1 h2
            rw [if_pos (by omega)]
          · rename_i h1 h2
            rw [if_neg (by omega), List.getElem?_drop]
            congr 1
            omega
      by_cases hiq : i = q
      · subst hiq
        rw [List.getElem_set_self]
        have hp := (h3 i hi).put p hv
        have : ((xs.take (i * r.size + p.off) ++ vs ++ xs.drop (i * r.size + p.off + vs.length)).drop (i * r.size)).take r.size =
            ((xs.drop (i * r.size)).take r.size).take p.off ++ vs ++ ((xs.drop (i * r.size)).take r.size).drop (p.off + s.size) := by
          have hseg : ((xs.drop (i * r.size)).take r.size).length = r.size := by rw [List.length_take, List.length_drop, hxl]; omega
          have hsj : ∀ j, j < r.size → ((xs.drop (i * r.size)).take r.size)[j]? = xs[i * r.size + j]? := fun j hj => by rw [List.getElem?_take, if_pos hj, List.getElem?_drop]
          generalize (xs.drop (i * r.size)).take r.size = seg at hseg hsj
          apply List.ext_getElem?
          intro j
          rw [List.getElem?_append (l₁ := seg.take p.off ++ vs), List.getElem?_append (l₁ := seg.take p.off), List.length_append, List.length_take, hseg, Nat.min_eq_left (show p.off ≤ r.size from by omega), List.getElem?_take (l := List.drop _ _)]
          by_cases hj : j < r.size
          · rw [if_pos hj, List.getElem?_drop, A j hj]
            by_cases hj1 : j < p.off
            · rw [if_pos (by omega), if_pos (by omega), if_pos hj1, List.getElem?_take, if_pos hj1, hsj j hj]
            · rw [if_neg (by omega)]
              by_cases hj2 : j < p.off + vs.length
              · rw [if_pos (by omega), if_pos hj2, if_neg hj1]
                congr 1
                omega
              · rw [if_neg (by omega), if_neg hj2, List.getElem?_drop, ← hsj j hj]
                congr 1
                omega
          · rw [if_neg hj, if_neg (by omega), List.getElem?_drop, List.getElem?_eq_none (by omega)]
        rw [this]
        exact hp.step hstep
      · rw [List.getElem_set_ne (fun e => hiq e.symm)]
        have : ((xs.take (q * r.size + p.off) ++ vs ++ xs.drop (q * r.size + p.off + vs.length)).drop (i * r.size)).take r.size = (xs.drop (i * r.size)).take r.size := by
          apply List.ext_getElem?
          intro j
          rw [List.getElem?_take, List.getElem?_take]
          by_cases hj : j < r.size
          · rw [if_pos hj, if_pos hj, List.getElem?_drop, A j hj, List.getElem?_drop]
            rcases Nat.lt_or_gt_of_ne hiq with hlt | hgt
            · have : (i + 1) * r.size ≤ q * r.size := Nat.mul_le_mul_right _ hlt
              rw [Nat.add_mul] at this
              rw [if_pos (by omega)]
            · have : (q + 1) * r.size ≤ i * r.size := Nat.mul_le_mul_right _ hgt
              rw [Nat.add_mul] at this
              rw [if_neg (by omega), if_neg (by omega)]
          · rw [if_neg hj, if_neg hj]
        rw [this]
        exact (h3 i hi).step hstep

theorem Own.at {g o0 m0 cap0 q : Nat} {i : Int} {v : Value} {l : List r.den} {a : r.den} (h : Own base F w e r v l) (hg : v = .slice (some ⟨g, o0, none⟩) m0 cap0) (hq : i = (q : Nat)) (hidx : idx l i = some a) : At F w r g (o0 + q * r.size) a := by
  obtain ⟨b, off, cap, k, hv, hk, hlt, hat⟩ := h.reads.elem hidx
  obtain rfl : k = q := by omega
  rw [hg] at hv
  simp only [Value.slice.injEq, Option.some.injEq, Addr.mk.injEq, and_true] at hv
  obtain ⟨⟨rfl, rfl⟩, _⟩ := hv
  exact hat

/-! ## Slice literals -/

theorem fold_set (cs : List Value) : ∀ (k : Nat) (pre post : List Value), post.length = cs.length → ∀ (tail : List Value),
    (cs.zipIdx k).foldl (fun (acc : Array Value) (cj : Value × Nat) => acc.setIfInBounds (pre.length - k + cj.2) cj.1) (pre ++ post ++ tail).toArray = (pre ++ cs ++ tail).toArray ∨ pre.length < k := by
  induction cs with
  | nil => intro k pre post hp tail; left; simp at hp; simp [hp]
  | cons c q ih =>
    intro k pre post hp tail
    by_cases hk : pre.length < k
    · exact .inr hk
    cases post with
    | nil => simp at hp
    | cons p0 post =>
      simp only [List.zipIdx_cons, List.foldl_cons]
      rcases ih (k + 1) (pre ++ [c]) post (by simpa using hp) tail with h | h
      · left
        have e1 : ((pre ++ p0 :: post ++ tail).toArray.setIfInBounds (pre.length - k + k) c) = ((pre ++ [c]) ++ post ++ tail).toArray := by
          rw [Nat.sub_add_cancel (by omega)]
          simp
        rw [e1]
        have e2 : (pre ++ [c]).length - (k + 1) = pre.length - k := by simp
        rw [e2] at h
        rw [h]
        simp
      · simp at h; omega

theorem fill_cons {place : Nat → Option (Nat × Nat)} {i off size : Nat} {v : Value} {vs cells : List Value} {rest : List (Nat × Value)} (hp : place i = some (off, size)) (hv : v.cells.toList = vs) (hs : vs.length = size) (hle : off + size ≤ cells.length) :
    Instr.fill place cells.toArray ((i, v) :: rest) = Instr.fill place (cells.take off ++ vs ++ cells.drop (off + size)).toArray rest := by
  have hvc : v.cells = vs.toArray := by rw [← hv, Array.toArray_toList]
  have hf := fold_set vs 0 (cells.take off) ((cells.drop off).take size) (by simp; omega) (cells.drop (off + size))
  have hcut : cells.take off ++ (cells.drop off).take size ++ cells.drop (off + size) = cells := by
    rw [List.append_assoc, ← List.drop_drop, List.take_append_drop, List.take_append_drop]
  have hlen : (cells.take off).length = off := by simp; omega
  rw [hcut, hlen, Nat.sub_zero] at hf
  rcases hf with hf | hf
  case inr => omega
  rw [Instr.fill]
  simp only [hp, hvc, List.size_toArray]
  rw [if_neg (by simp; omega)]
  congr 1
  rw [← Array.foldl_toList, Array.toList_zipIdx]
  exact hf

/-- The elements of a literal, each with its value and its reading. -/
inductive Lits (F : Nat → Prop) (w : World) (r : Row) : List Value → List r.den → Prop where
  | nil : Lits F w r [] []
  | cons {v : Value} {vs : List Value} {cs : List Value} {a : r.den} {l : List r.den} (hc : v.cells.toList = cs) (hr : Rep F w r cs a) (h : Lits F w r vs l) : Lits F w r (v :: vs) (a :: l)

theorem Lits.length {vs : List Value} {l : List r.den} (h : Lits F w r vs l) : vs.length = l.length := by
  induction h with
  | nil => rfl
  | cons _ _ _ ih => simp [ih]

theorem Lits.fill {vs : List Value} {l : List r.den} (h : Lits F w r vs l) : ∀ (k : Nat) (pre post : List Value), pre.length = k * r.size → post.length = vs.length * r.size →
    ∃ xs, Instr.fill (fun i => some (i * r.size, r.size)) (pre ++ post).toArray ((vs.zipIdx k).map fun p => (p.2, p.1)) = some (pre ++ xs).toArray ∧ xs.length = l.length * r.size ∧ ∀ i (hi : i < l.length), Rep F w r ((xs.drop (i * r.size)).take r.size) l[i] := by
  induction h with
  | nil =>
    intro k pre post hp hq
    have : post = [] := List.eq_nil_of_length_eq_zero (by simpa using hq)
    subst this
    exact ⟨[], by simp [Instr.fill], by simp, fun i hi => absurd hi (by simp)⟩
  | @cons v vs cs a l hc hr h ih =>
    intro k pre post hp hq
    have hl := hr.length
    rw [List.length_cons, Nat.add_mul, Nat.one_mul] at hq
    obtain ⟨xs, h1, h2, h3⟩ := ih (k + 1) (pre ++ cs) (post.drop r.size) (by rw [List.length_append, hp, hl, Nat.add_mul, Nat.one_mul]) (by rw [List.length_drop, hq]; omega)
    refine ⟨cs ++ xs, ?_, by rw [List.length_append, hl, h2, List.length_cons, Nat.add_mul, Nat.one_mul, Nat.add_comm], fun i hi => ?_⟩
    · simp only [List.zipIdx_cons, List.map_cons]
      rw [fill_cons (place := fun i => some (i * r.size, r.size)) rfl hc hl (by rw [List.length_append, hp, hq]; omega)]
      rw [← hp, List.take_left', List.drop_append, List.drop_of_length_le (by omega), List.nil_append, show pre.length + r.size - pre.length = r.size from by omega]
      · rw [h1]
        simp [List.append_assoc]
      · rfl
    · cases i with
      | zero =>
        simp only [Nat.zero_mul, List.drop_zero, List.getElem_cons_zero]
        rw [← hl, List.take_left']
        · exact hr
        · rfl
      | succ i =>
        rw [Nat.add_mul, Nat.one_mul, Nat.add_comm, ← List.drop_drop, ← hl, List.drop_left', hl]
        · simpa using h3 i (by simpa using hi)
        · rfl

/-! ## Struct literals -/

/-- The parts of a struct literal, laid into the zero value. -/
def Bld (place : Nat → Option (Nat × Nat)) (F : Nat → Prop) (w : World) (r : Row) (parts : List (Nat × Value)) (x x' : r.den) : Prop :=
  ∀ es, Rep F w r es x → ∃ es', Instr.fill place es.toArray parts = some es'.toArray ∧ Rep F w r es' x'

theorem Bld.nil {place : Nat → Option (Nat × Nat)} {x : r.den} : Bld place F w r [] x x := fun es h => ⟨es, by simp [Instr.fill], h⟩
theorem Bld.cons {place : Nat → Option (Nat × Nat)} {i off size : Nat} {v : Value} {vs : List Value} {parts : List (Nat × Value)} {x x' : r.den} {u : s.den} (p : Path r s) (hp : place i = some (off, size)) (ho : p.off = off) (hz : s.size = size) (hv : v.cells.toList = vs) (hr : Rep F w s vs u)
    (h : Bld place F w r parts (p.set x u) x') : Bld place F w r ((i, v) :: parts) x x' := fun es he => by
  subst ho; subst hz
  have hle := p.le
  have hl := hr.length
  rw [fill_cons hp hv hl (by rw [he.length]; omega)]
  exact h _ (he.put p hr)

theorem q_nil {f : Operand → Value} : List.map (fun (q : Nat × Operand) => f q.2) [] = [] := rfl
theorem q_cons {f : Operand → Value} {i : Nat} {x : Operand} {xs : List (Nat × Operand)} {v : Value} {vs : List Value} (h : f x = v) (hs : List.map (fun (q : Nat × Operand) => f q.2) xs = vs) : List.map (fun (q : Nat × Operand) => f q.2) ((i, x) :: xs) = v :: vs := by rw [List.map_cons, h, hs]

/-! ## Results that lie in variables -/
end
end Go.Proofs.YtjeeligfdpociaaGreat
