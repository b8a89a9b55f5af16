/- Functions of Go's library whose contracts the kit proves: slices.Sort and slices.Compact at ints, strings.Contains at a text of one byte; their contracts in the walk's terms. -/
import Derived.Test.YtjeeligfdpociaaGreatFn
import Derived.Sort.Grow
import Derived.Lib.SlicesCompact
import Derived.Lib.Bytealg
namespace Go.Proofs.YtjeeligfdpociaaGreat
open Go Go.RowKit

/-- A list of ints in increasing order. -/
def sortI (l : List Int) : List Int := l.mergeSort fun x y => decide (x ≤ y)

section
variable {P : Program} {w w' : World} {F : Nat → Prop} {T : TypeId}

theorem grow_nil (w : World) : Go.Sort.grow w #[] = w := by
  unfold Go.Sort.grow
  rw [Array.append_empty]
theorem onCells_cells (f : Array Value → Array Value) (c : Array Value) (t : TypeId) (fr : Nat × Nat) : Go.Sort.onCells f (.cells c t fr) = .cells (f c) t fr := rfl
theorem ext_row {g off : Nat} {d : Array Int} {n : Nat} {os : Array Obj} (h : w' = Go.Sort.grow (Go.Sort.putRow (Value.int .i64) (Go.Sort.ahead w n) g off d) os) : Ext (fun k => k = g) w w' := by
  subst h
  refine ⟨rfl, rfl, rfl, ?_, fun k hk hn => ?_⟩
  · simp [Go.Sort.grow, Go.Sort.putRow, Go.Sort.mapBlock, Go.Sort.ahead]
  · simp only [Go.Sort.grow]
    rw [Array.getElem?_append_left (by simpa [Go.Sort.putRow, Go.Sort.mapBlock, Go.Sort.ahead] using hk)]
    simp only [Go.Sort.putRow, Go.Sort.mapBlock, Go.Sort.ahead, Array.getElem?_modify]
    rw [if_neg (fun e => hn e.symm)]
theorem row_row {g off : Nat} {d : Array Int} {n : Nat} {os : Array Obj} (h : w' = Go.Sort.grow (Go.Sort.putRow (Value.int .i64) (Go.Sort.ahead w n) g off d) os) {cur : Array Value} (hg : w.heap[g]? = some (.cells cur T (0, 0))) :
    w'.heap[g]? = some (.cells (Go.Sort.putCells (Value.int .i64) off d cur) T (0, 0)) := by
  subst h
  have hlt : g < w.heap.size := (Array.getElem?_eq_some_iff.1 hg).1
  simp only [Go.Sort.grow]
  rw [Array.getElem?_append_left (by simpa [Go.Sort.putRow, Go.Sort.mapBlock, Go.Sort.ahead] using hlt)]
  simp only [Go.Sort.putRow, Go.Sort.mapBlock, Go.Sort.ahead, Array.getElem?_modify]
  rw [if_pos trivial, hg]
  rfl
theorem reps_cells {l : List Int} {xs : List Value} (hx : xs.length = l.length * 1) (h : ∀ i (hi : i < l.length), Rep F w rInt ((xs.drop (i * 1)).take 1) l[i]) : xs = l.map (Value.int .i64) := by
  apply List.ext_getElem (by simpa using hx)
  intro i h1 h2
  have hi : i < l.length := by simpa using h2
  have : (xs.drop (i * 1)).take 1 = [Value.int .i64 l[i]] := h i hi
  rw [Nat.mul_one, List.drop_eq_getElem_cons h1, List.take_succ_cons, List.take_zero] at this
  simpa only [List.getElem_map, List.cons.injEq, and_true] using this
theorem put_cells {off : Nat} {d : Array Int} {cur : Array Value} (h : off + d.size ≤ cur.size) : ((Go.Sort.putCells (Value.int .i64) off d cur).toList.drop off).take d.size = d.toList.map (Value.int .i64) := by
  apply List.ext_getElem (by simp [Go.Sort.putCells]; omega)
  intro i h1 h2
  have hi : i < d.size := by simpa using h2
  rw [List.getElem_take, List.getElem_drop, List.getElem_map, Array.getElem_toList, Array.getElem_toList]
  simp only [Go.Sort.putCells, Array.getElem_mapIdx]
  rw [if_pos ⟨by omega, by omega⟩, show off + i - off = i by omega, getElem!_pos d i hi]

/-- A row of ints of the call's own: what the kit's contracts ask of it; what they leave. -/
theorem own_holds {v : Value} {l : List Int} (h : Own 0 F w T rInt v l) : (v = .slice none 0 0 ∧ l = []) ∨ ∃ g o0 cap cur, v = .slice (some ⟨g, o0, none⟩) l.length cap ∧ w.heap[g]? = some (.cells cur T (0, 0)) ∧ l.length ≤ cap ∧ cap ≤ maxLen ∧ o0 + cap ≤ cur.size ∧ Go.Sort.Holds (Value.int .i64) w g o0 l.toArray := by
  obtain ⟨_, xs, ⟨hx, h2⟩, h3⟩ := h
  have e := reps_cells hx h3
  rcases h2 with ⟨rfl, h0⟩ | ⟨g, o0, cap, cur, rfl, _, hg, h4, h5, h6, h7⟩
  · exact .inl ⟨rfl, List.eq_nil_of_length_eq_zero h0⟩
  · refine .inr ⟨g, o0, cap, cur, rfl, hg, h4, h5, by simpa [Row.size] using h6, fun j hj => ⟨?_, frozen_of_row w g _ cur T hg⟩⟩
    have hj : j < l.length := by simpa using hj
    rw [cell_of_row w g _ cur T (0, 0) hg]
    have : xs[j]? = some (Value.int .i64 l[j]) := by rw [e]; simp [hj]
    rw [← h7, List.getElem?_take] at this
    split at this
    · rw [List.getElem?_drop] at this
      rw [getElem!_pos l.toArray j (by simpa using hj)]
      simpa using this
    · cases this
theorem own_left {g o0 cap : Nat} {l d : List Int} {cur : Array Value} {n : Nat} {os : Array Obj} (h : Own 0 F w T rInt (.slice (some ⟨g, o0, none⟩) l.length cap) l) (hg : w.heap[g]? = some (.cells cur T (0, 0))) (hs : o0 + cap ≤ cur.size) (hc : cap ≤ maxLen)
    (hl : d.length ≤ cap) (m : Nat) (hm : m ≤ d.length) (hw : w' = Go.Sort.grow (Go.Sort.putRow (Value.int .i64) (Go.Sort.ahead w n) g o0 d.toArray) os) : Own 0 F w' T rInt (.slice (some ⟨g, o0, none⟩) m cap) (d.take m) := by
  have hrow := row_row hw hg
  have hp := put_cells (off := o0) (d := d.toArray) (cur := cur) (by simp; omega)
  refine ⟨fun k hk => h.no k (by simpa [mine, Value.ownBlock] using hk), (d.take m).map (Value.int .i64), ⟨by simp [Row.size], .inr ⟨g, o0, cap, _, by simp [Nat.min_eq_left hm], Nat.zero_le _, hrow, by simp; omega, hc, by simp [Go.Sort.putCells, Row.size]; omega, ?_⟩⟩, fun i hi => ?_⟩
  · have : ((Go.Sort.putCells (Value.int .i64) o0 d.toArray cur).toList.drop o0).take m = (d.take m).map (Value.int .i64) := by
      rw [show m = min m d.toArray.size by simp [Nat.min_eq_left hm], ← List.take_take, hp, List.map_take]
      simp [Nat.min_eq_left hm]
    simpa [Row.size, Nat.min_eq_left hm] using this
  · have hi' : i < d.length := by simp at hi; omega
    show ((List.map (Value.int .i64) (d.take m)).drop (i * 1)).take 1 = [Value.int .i64 (d.take m)[i]]
    rw [Nat.mul_one, List.drop_eq_getElem_cons (by simpa using hi)]
    simp

/-! ## The contracts -/
theorem compactUpTo_le (d : Array Int) : ∀ m, (Go.Lib.compactUpTo d m).length ≤ m
  | 0 => by simp [Go.Lib.compactUpTo]
  | m + 1 => by
    have := compactUpTo_le d m
    rw [Go.Lib.compactUpTo_succ, List.length_append]
    split <;> simp <;> omega
theorem compact_le (l : List Int) : (Go.Lib.compact l).length ≤ l.length := compactUpTo_le _ _
theorem find1_ne {α : Type} {k o : Nat} {x : α} (h : o ≠ k) : find [(k, x)] o = none := by
  have : Nat.beq k o = false := by
    cases hb : Nat.beq k o with
    | false => rfl
    | true => exact absurd (Nat.eq_of_beq_eq_true hb).symm h
  simp [find, this]
/-- A function that turns an own slice in place. -/
theorem inplace_fn {f : FuncId} {r : Row} {fn : List r.den → Option (List r.den)} (hb : ∃ fn, P.funcs[f]? = some fn ∧ (fn.name == "runtime.NumGoroutine") = false ∧ fn.body.isNone = false)
    (hr : r.beq r = true)
    (hc : ∀ {F : Nat → Prop} {w : World} {v : Value} {l m : List r.den}, fn l = some m → Own 0 F w T r v l → (∀ b, F b → b < w.heap.size) → Calls P f #[v] w fun e w' => e = .returned (.tuple #[]) ∧ Ext (mine v) w w' ∧ Own 0 F w' T r v m) :
    FnOK P f ⟨⟨[(0, .val false (.own 0))], [(0, .own T r)], [], 1⟩, ⟨[], [(0, .own T r)], [], 2⟩, fn⟩ := by
  refine ⟨hb, fun x y hxy args w H F G hlen hsl hob hall hG => ?_⟩
  have hall : AllNew H 1 := hall
  match args, hlen with
  | [v], _ =>
  have hx : (resO 0 [(0, OS.own T r)] (resS [(0, SS.val false (.own 0))] (ofTup [.slice r] x)).2) = [(0, (0, .own T r x))] := by
    show [(0, (0, (resO1 (.own T r) [⟨.slice r, x⟩]).1))] = _
    simp only [resO1, hr, cond_true]
  have hy : (resO 1 [(0, OS.own T r)] (resS [] (ofTup [.slice r] y)).2) = [(0, (1, .own T r y))] := by
    show [(0, (1, (resO1 (.own T r) [⟨.slice r, y⟩]).1))] = _
    simp only [resO1, hr, cond_true]
  have hob : ObSat (fun k => w.heap.size ≤ k ∨ G k) H F w (find [(0, (0, Th.own T r x))]) 1 := by rw [← hx]; exact hob
  have hd : DescOK H F w (.val false (.own 0)) v := hsl 0 _ rfl
  obtain ⟨cs, ⟨v', hv, h1, rfl⟩, _, hcs⟩ := hd
  obtain rfl : v' = v := by have := hcs rfl; simpa using this
  have hown := hob.own rfl hv
  obtain ⟨v2, hv2, hin⟩ := hob.obj 0 0 _ rfl
  rw [hv] at hv2
  obtain rfl := Option.some.inj hv2
  refine (hc hxy hown hob.lt).mono fun e w' ⟨he, hext, hown'⟩ => ⟨[], he, rfl, H.setCon 1 (.own T r y), F, ⟨hext.os, hext.tape, hext.output, hext.size, fun k hk hn => hext.block k hk fun hm => ?_⟩, Hist.le_setCon (hall 1 (Nat.le_refl _)).2, fun b h => h, fun b h => .inl h, fun t d h => ?_, ?_, ?_⟩
  · rcases hin.use k hm with h | h
    · omega
    · exact hn h
  · cases h
  · show ObSat _ _ F w' (find (resO 1 [(0, OS.own T r)] (resS [] (ofTup [.slice r] y)).2)) 2
    rw [hy]
    refine ⟨fun o s t ho => ?_, fun o o' s s' t t' u u' hne ho ho' => ?_, fun m h1 h2 => ⟨(hall m (by have : 2 ≤ m := h1; omega)).1, ?_⟩, fun b hb => Nat.lt_of_lt_of_le (hob.lt b hb) hext.size, fun b hb => .inl (Nat.le_trans hext.size hb), hob.gl.step (Step.ext hext hob.lt hown.no)⟩
    · obtain ⟨rfl, h⟩ : o = 0 ∧ (1, Th.own T r y) = (s, t) := by
        by_cases h0 : o = 0
        · subst h0; exact ⟨rfl, Option.some.inj ho⟩
        · exfalso
          have : find [(0, (1, Th.own T r y))] o = none := find1_ne h0
          rw [this] at ho; cases ho
      cases h
      refine ⟨v', hv, h1, by simp [Hist.setCon, Th.base], Own.to _ hown', hown'.no, hown'.lt, fun k hk => ?_⟩
      exact hin.use k hk
    · have key : ∀ o x, find [(0, (1, Th.own T r y))] o = some x → o = 0 := fun o x h => by
        by_cases h0 : o = 0
        · exact h0
        · have : find [(0, (1, Th.own T r y))] o = none := find1_ne h0
          rw [this] at h; cases h
      exact absurd ((key o _ ho).trans (key o' _ ho').symm) hne
    · have h1 : 2 ≤ m := h1
      show (if m = 1 then _ else H.con m) = none
      rw [if_neg (by omega)]
      exact (hall m (by omega)).2
  · intro m hm
    have hm : 2 ≤ m := hm
    refine ⟨(hall m (by omega)).1, ?_⟩
    show (if m = 1 then _ else H.con m) = none
    rw [if_neg (by omega)]
    exact (hall m (by omega)).2

/-- A function that gives back an own slice, made of the one that it takes. -/
theorem turned_fn {f : FuncId} {r : Row} {fn : List r.den → Option (List r.den)} (hb : ∃ fn, P.funcs[f]? = some fn ∧ (fn.name == "runtime.NumGoroutine") = false ∧ fn.body.isNone = false)
    (hr : r.beq r = true)
    (hc : ∀ {F : Nat → Prop} {w : World} {v : Value} {l m : List r.den}, fn l = some m → Own 0 F w T r v l → (∀ b, F b → b < w.heap.size) → Calls P f #[v] w fun e w' => ∃ v', e = .returned v' ∧ Ext (mine v) w w' ∧ Own 0 F w' T r v' m ∧ ∀ k, mine v' k → mine v k) :
    FnOK P f ⟨⟨[(0, .val false (.own 0))], [(0, .own T r)], [], 1⟩, ⟨[(0, .val false (.own 1))], [(1, .own T r)], [], 2⟩, fn⟩ := by
  refine ⟨hb, fun x y hxy args w H F G hlen hsl hob hall hG => ?_⟩
  have hall : AllNew H 1 := hall
  match args, hlen with
  | [v], _ =>
  have hx : (resO 0 [(0, OS.own T r)] (resS [(0, SS.val false (.own 0))] (ofTup [.slice r] x)).2) = [(0, (0, .own T r x))] := by
    show [(0, (0, (resO1 (.own T r) [⟨.slice r, x⟩]).1))] = _
    simp only [resO1, hr, cond_true]
  have hy : (resO 1 [(1, OS.own T r)] (resS [(0, SS.val false (.own 1))] (ofTup [.slice r] y)).2) = [(1, (1, .own T r y))] := by
    show [(1, (1, (resO1 (.own T r) [⟨.slice r, y⟩]).1))] = _
    simp only [resO1, hr, cond_true]
  have hob : ObSat (fun k => w.heap.size ≤ k ∨ G k) H F w (find [(0, (0, Th.own T r x))]) 1 := by rw [← hx]; exact hob
  have hd : DescOK H F w (.val false (.own 0)) v := hsl 0 _ rfl
  obtain ⟨cs, ⟨v', hv, h1, rfl⟩, _, hcs⟩ := hd
  obtain rfl : v' = v := by have := hcs rfl; simpa using this
  have hown := hob.own rfl hv
  obtain ⟨v2, hv2, hin⟩ := hob.obj 0 0 _ rfl
  rw [hv] at hv2
  obtain rfl := Option.some.inj hv2
  have hfr := hall 1 (Nat.le_refl _)
  refine (hc hxy hown hob.lt).mono fun e w' ⟨v3, he, hext, hown', hmine⟩ => ?_
  have h13 : v3.oneCell' = true := (OwnM.one hown'.2)
  have hle : H.le ((H.setCon 1 (.own T r y)).setVal 1 v3) := ⟨fun o u h => by
    show (if o = 1 then some v3 else H.val o) = some u
    rw [if_neg (fun e => by rw [e, hfr.1] at h; cases h)]
    exact h, (Hist.le_setCon (t := .own T r y) hfr.2).con, (Hist.le_setCon (t := .own T r y) hfr.2).sub⟩
  refine ⟨[v3], he, rfl, (H.setCon 1 (.own T r y)).setVal 1 v3, F, ⟨hext.os, hext.tape, hext.output, hext.size, fun k hk hn => hext.block k hk fun hm => ?_⟩, hle, fun b h => h, fun b h => .inl h, fun t d h => ?_, ?_, ?_⟩
  · rcases hin.use k hm with h | h
    · omega
    · exact hn h
  · have ht : t = 0 ∧ d = .val false (.own 1) := by
      have h : find [(0, Desc.val false (.own 1))] t = some d := h
      by_cases h0 : t = 0
      · subst h0
        exact ⟨rfl, (Option.some.inj h).symm⟩
      · have e : find [(0, Desc.val false (.own 1))] t = none := find1_ne h0
        rw [e] at h; cases h
    obtain ⟨rfl, rfl⟩ := ht
    exact ⟨[v3], ⟨v3, by simp [Hist.setVal], h13, rfl⟩, rfl, fun _ => rfl⟩
  · show ObSat _ _ F w' (find (resO 1 [(1, OS.own T r)] (resS [(0, SS.val false (.own 1))] (ofTup [.slice r] y)).2)) 2
    rw [hy]
    have key : ∀ o x, find [(1, (1, Th.own T r y))] o = some x → o = 1 ∧ x = (1, Th.own T r y) := fun o x h => by
      by_cases h0 : o = 1
      · subst h0; exact ⟨rfl, (Option.some.inj h).symm⟩
      · have : find [(1, (1, Th.own T r y))] o = none := find1_ne h0
        rw [this] at h; cases h
    refine ⟨fun o s t ho => ?_, fun o o' s s' t t' u u' hne ho ho' => ?_, fun m h1 h2 => ⟨?_, ?_⟩, fun b hb => Nat.lt_of_lt_of_le (hob.lt b hb) hext.size, fun b hb => .inl (Nat.le_trans hext.size hb), hob.gl.step (Step.ext hext hob.lt hown.no)⟩
    · obtain ⟨rfl, h⟩ := key o _ ho
      cases h
      exact ⟨v3, by simp [Hist.setVal], h13, by simp [Hist.setCon, Hist.setVal, Th.base], Own.to _ hown', hown'.no, hown'.lt, fun k hk => hin.use k (hmine k hk)⟩
    · exact absurd ((key o _ ho).1.trans (key o' _ ho').1.symm) hne
    · have h1 : 2 ≤ m := h1
      show (if m = 1 then _ else H.val m) = none
      rw [if_neg (by omega)]
      exact (hall m (by omega)).1
    · have h1 : 2 ≤ m := h1
      show (if m = 1 then _ else H.con m) = none
      rw [if_neg (by omega)]
      exact (hall m (by omega)).2
  · intro m hm
    have hm : 2 ≤ m := hm
    refine ⟨?_, ?_⟩
    · show (if m = 1 then _ else H.val m) = none
      rw [if_neg (by omega)]
      exact (hall m (by omega)).1
    · show (if m = 1 then _ else H.con m) = none
      rw [if_neg (by omega)]
      exact (hall m (by omega)).2

def sortM (l : List Int) : Option (List Int) := if l.length < 4611686018427387904 then some (sortI l) else none
theorem sort_fn {f : FuncId} (hb : ∃ fn, P.funcs[f]? = some fn ∧ (fn.name == "runtime.NumGoroutine") = false ∧ fn.body.isNone = false)
    (h1 : ∀ (blk off cap : Nat) (zs : List Int) (w : World), Go.Sort.Holds (Value.int .i64) w blk off zs.toArray → blk < w.heap.size → zs.length < 4611686018427387904 →
      Calls P f #[.slice (some ⟨blk, off, none⟩) zs.length cap] w fun e w' => e = .returned (.tuple #[]) ∧ ∃ n os, w' = Go.Sort.grow (Go.Sort.putRow (Value.int .i64) (Go.Sort.ahead w n) blk off (zs.mergeSort fun x y => decide (x ≤ y)).toArray) os)
    (h2 : ∀ (p : Option Addr) (cap : Nat) (w : World), Calls P f #[.slice p 0 cap] w fun e w' => e = .returned (.tuple #[]) ∧ w' = w) :
    FnOK P f ⟨⟨[(0, .val false (.own 0))], [(0, .own T rInt)], [], 1⟩, ⟨[], [(0, .own T rInt)], [], 2⟩, fun x => sortM x⟩ := by
  refine inplace_fn (r := rInt) hb rfl fun {F w v l m} hm ho hF => ?_
  have hm : sortM l = some m := hm
  unfold sortM at hm
  split at hm
  case isFalse => cases hm
  rename_i hlen
  obtain rfl := Option.some.inj hm
  rcases own_holds ho with ⟨rfl, rfl⟩ | ⟨g, o0, cap, cur, rfl, hg, hcap, hmx, hsz, hh⟩
  · refine (h2 none 0 w).mono fun e w' ⟨he, hw⟩ => ⟨he, hw ▸ ⟨rfl, rfl, rfl, Nat.le_refl _, fun _ _ _ => rfl⟩, hw ▸ ?_⟩
    simpa [sortI] using ho
  · refine (h1 g o0 cap l w hh (Array.getElem?_eq_some_iff.1 hg).1 hlen).mono fun e w' ⟨he, n, os, hw⟩ => ⟨he, ?_, ?_⟩
    · have := ext_row hw
      exact ⟨this.os, this.tape, this.output, this.size, fun k hk hn => this.block k hk fun e => hn (by simp [mine, Value.ownBlock, e])⟩
    · have hl : (sortI l).length = l.length := List.length_mergeSort ..
      have := own_left (d := sortI l) ho hg hsz hmx (by omega) (sortI l).length (Nat.le_refl _) hw
      rw [List.take_length, hl] at this
      exact this
def compactM (l : List Int) : Option (List Int) := if l.length ≤ 9223372036854775807 then some (Go.Lib.compact l) else none
theorem compact_fn {f : FuncId} (hb : ∃ fn, P.funcs[f]? = some fn ∧ (fn.name == "runtime.NumGoroutine") = false ∧ fn.body.isNone = false)
    (h1 : ∀ (blk off cap : Nat) (zs : List Int) (w : World), Go.Sort.Holds (Value.int .i64) w blk off zs.toArray → zs.length ≤ 9223372036854775807 → zs.length ≤ cap →
      Calls P f #[.slice (some ⟨blk, off, none⟩) zs.length cap] w fun e w' => e = .returned (.slice (some ⟨blk, off, none⟩) (Go.Lib.compact zs).length cap) ∧ ∃ q, w' = Go.Sort.putRow (Value.int .i64) (Go.Sort.ahead w q) blk off (Go.Lib.compact zs ++ List.replicate (zs.length - (Go.Lib.compact zs).length) 0).toArray)
    (h2 : ∀ (p : Option Addr) (cap : Nat) (w : World), Calls P f #[.slice p 0 cap] w fun e w' => e = .returned (.slice p 0 cap) ∧ w' = w) :
    FnOK P f ⟨⟨[(0, .val false (.own 0))], [(0, .own T rInt)], [], 1⟩, ⟨[(0, .val false (.own 1))], [(1, .own T rInt)], [], 2⟩, fun x => compactM x⟩ := by
  refine turned_fn (r := rInt) hb rfl fun {F w v l m} hm ho hF => ?_
  have hm : compactM l = some m := hm
  unfold compactM at hm
  split at hm
  case isFalse => cases hm
  rename_i hlen
  obtain rfl := Option.some.inj hm
  rcases own_holds ho with ⟨rfl, rfl⟩ | ⟨g, o0, cap, cur, rfl, hg, hcap, hmx, hsz, hh⟩
  · refine (h2 none 0 w).mono fun e w' ⟨he, hw⟩ => ⟨_, he, hw ▸ ⟨rfl, rfl, rfl, Nat.le_refl _, fun _ _ _ => rfl⟩, hw ▸ ?_, fun k hk => hk⟩
    exact ho
  · have hcl : (Go.Lib.compact l).length ≤ l.length := compact_le l
    refine (h1 g o0 cap l w hh hlen hcap).mono fun e w' ⟨he, n, hw⟩ => ⟨_, he, ?_, ?_, fun k hk => by simpa [mine, Value.ownBlock] using hk⟩
    all_goals have hw : w' = Go.Sort.grow (Go.Sort.putRow (Value.int .i64) (Go.Sort.ahead w n) g o0 (Go.Lib.compact l ++ List.replicate (l.length - (Go.Lib.compact l).length) 0).toArray) #[] := by rw [hw, grow_nil]
    · have := ext_row hw
      exact ⟨this.os, this.tape, this.output, this.size, fun k hk hn => this.block k hk fun e => hn (by simp [mine, Value.ownBlock, e])⟩
    · have := own_left (d := Go.Lib.compact l ++ List.replicate (l.length - (Go.Lib.compact l).length) 0) ho hg hsz hmx (by simp; omega) (Go.Lib.compact l).length (by simp) hw
      rw [List.take_left] at this
      exact this

/-- A function of two texts that gives back a bool and leaves the world as it was. -/
def containsM (x : ByteArray × ByteArray) : Option Bool := if x.2.size = 1 then some (decide (0 ≤ Go.Lib.indexByte x.1.data.toList (x.2.data.getD 0 0))) else none
theorem contains_fn {f : FuncId} (hb : ∃ fn, P.funcs[f]? = some fn ∧ (fn.name == "runtime.NumGoroutine") = false ∧ fn.body.isNone = false)
    (h1 : ∀ (s : ByteArray) (c : UInt8) (w : World), Calls P f #[.string s, .string ⟨#[c]⟩] w fun e w' => e = .returned (.bool (decide (0 ≤ Go.Lib.indexByte s.data.toList c))) ∧ w' = w) :
    FnOK P f ⟨⟨[(0, .val false (.leaf .str)), (1, .val false (.leaf .str))], [], [], 0⟩, ⟨[(0, .val false (.leaf .bool))], [], [], 0⟩, fun x => containsM x⟩ := by
  refine ⟨hb, fun x y hxy args w H F G hlen hsl hob hall hG => ?_⟩
  match args, hlen with
  | [u, v], _ =>
  obtain ⟨s, t⟩ := x
  have hxy : containsM (s, t) = some y := hxy
  unfold containsM at hxy
  split at hxy
  case isFalse => cases hxy
  rename_i hsz
  obtain rfl := Option.some.inj hxy
  have hu : ValOK H F w false (.leaf .str s) u := hsl 0 _ rfl
  have hv : ValOK H F w false (.leaf .str t) v := hsl 1 _ rfl
  obtain ⟨cs, hc, _, h2⟩ := hu
  obtain ⟨cs', hc', _, h2'⟩ := hv
  have hc : cs = [.string s] := hc
  have hc' : cs' = [.string t] := hc'
  have eu : u = .string s := by have := (h2 rfl).symm.trans hc; simpa using this
  have ev : v = .string t := by have := (h2' rfl).symm.trans hc'; simpa using this
  subst eu ev
  obtain ⟨⟨⟨l⟩⟩ , ht⟩ : ∃ t' : ByteArray, t' = t := ⟨t, rfl⟩
  match l, ht with
  | [c], ht =>
    subst ht
    refine (h1 s c w).mono fun e w' ⟨he, hw⟩ => ?_
    subst hw
    refine ⟨[_], he, rfl, H, F, ⟨rfl, rfl, rfl, Nat.le_refl _, fun _ _ _ => rfl⟩, Hist.le.refl H, fun _ h => h, fun _ h => .inl h, fun i d h => ?_, ?_, hall⟩
    · have hd : i = 0 ∧ d = .val false (.leaf .bool (decide (0 ≤ Go.Lib.indexByte s.data.toList c))) := by
        have h : find [(0, Desc.val false (.leaf .bool (decide (0 ≤ Go.Lib.indexByte s.data.toList c))))] i = some d := h
        by_cases h0 : i = 0
        · subst h0
          exact ⟨rfl, (Option.some.inj h).symm⟩
        · rw [find1_ne h0] at h
          cases h
      obtain ⟨rfl, rfl⟩ := hd
      exact ValOK.leaf1 rfl
    · exact hob
  | [], ht => subst ht; cases hsz
  | _ :: _ :: _, ht => subst ht; simp [ByteArray.size] at hsz
end
end Go.Proofs.YtjeeligfdpociaaGreat
