/- Memory in the walks: variables and slices of the call's own. -/
import Derived.Test.YtjeeligfdpociaaGreatMem
namespace Go.Proofs.YtjeeligfdpociaaGreat
open Go Go.RowKit

/-- Beyond the blocks of g the world w' is as w was. -/
structure Ext (g : Nat → Prop) (w w' : World) : Prop where
  os : w'.os = w.os
  tape : w'.tape = w.tape
  output : w'.output = w.output
  size : w.heap.size ≤ w'.heap.size
  block : ∀ k, k < w.heap.size → ¬ g k → w'.heap[k]? = w.heap[k]?

theorem Ext.of_grown {g : Nat → Prop} {a b : World} {row : Option Nat} (h : a.grownBy b row) (hs : ∀ k, row = some k → g k) : Ext g a b :=
  ⟨h.os, h.tape, h.output, h.size, fun k hk hn => h.block k hk fun e => hn (hs k e.symm)⟩

section
variable {w0 w w' : World} {F0 F F' : Nat → Prop} {g : Nat → Prop}

theorem St.ext (h : St w0 F0 w F) (he : Ext g w w') (hg : ∀ k, g k → w0.heap.size ≤ k) : St w0 F0 w' F :=
  ⟨h.below.trans ⟨he.os, he.tape, he.output, he.size, fun k hk => by
    rcases Nat.lt_or_ge k w.heap.size with hlt | hge
    · exact he.block k hlt fun e => by have := hg k e; omega
    · have := h.below.size; omega⟩, h.le, h.new, fun b hb => Nat.lt_of_lt_of_le (h.lt b hb) he.size⟩
theorem Step.ext (he : Ext g w w') (hF : ∀ b, F b → b < w.heap.size) (hg : ∀ k, g k → ¬ F k) : Step F w F w' :=
  fun b hb => ⟨hb, he.block b (hF b hb) fun e => hg b e hb⟩

/-- A variable of the call's own: the block b. -/
def BoxO (base : Nat) (F : Nat → Prop) (w : World) (b : Nat) (T : TypeId) (r : Row) (x : r.den) : Prop :=
  base ≤ b ∧ ¬ F b ∧ ∃ es, w.heap[b]? = some (.cells es.toArray T (0, 0)) ∧ Rep F w r es x

def mine (v : Value) (k : Nat) : Prop := v.ownBlock = some k
def is (b k : Nat) : Prop := k = b

/-- A row in a block of the call's own, from some cell on. -/
def ownsQ (w : World) (base : Nat) (e : TypeId) (size : Nat) (v : Value) (n : Nat) (xs : List Value) : Prop :=
  xs.length = n * size ∧
  ((v = .slice none 0 0 ∧ n = 0) ∨
   ∃ g o0 cap cur, v = .slice (some ⟨g, o0, none⟩) n cap ∧ base ≤ g ∧ w.heap[g]? = some (.cells cur e (0, 0)) ∧ n ≤ cap ∧ cap ≤ maxLen ∧ o0 + cap * size ≤ cur.size ∧ (cur.toList.drop o0).take (n * size) = xs)
theorem ownsQ.of {w : World} {base : Nat} {e : TypeId} {size : Nat} {v : Value} {n : Nat} {xs : List Value} (h : w.ownsRow base e size v n xs) : ownsQ w base e size v n xs := by
  refine ⟨h.1, ?_⟩
  rcases h.2 with h | ⟨g, cap, cur, hv, hb, hg, h1, h2, h3, h4⟩
  · exact .inl h
  · exact .inr ⟨g, 0, cap, cur, hv, hb, hg, h1, h2, by omega, h4⟩
theorem ownsQ_nil (w : World) (base : Nat) (e : TypeId) (size : Nat) : ownsQ w base e size (.slice none 0 0) 0 [] := .of (World.ownsRow_nil w base e size)
theorem ownsQ.lt {w : World} {base : Nat} {e : TypeId} {size : Nat} {v : Value} {n : Nat} {xs : List Value} (h : ownsQ w base e size v n xs) : ∀ k, v.ownBlock = some k → base ≤ k ∧ k < w.heap.size := by
  intro k hk
  rcases h.2 with ⟨rfl, _⟩ | ⟨g, o0, cap, cur, rfl, hb, hg, _⟩
  · cases hk
  · obtain rfl : g = k := by simpa [Value.ownBlock] using hk
    exact ⟨hb, (Array.getElem?_eq_some_iff.1 hg).1⟩

/-- A slice of the call's own: nil, or a row in a block of its own. -/
def Own (base : Nat) (F : Nat → Prop) (w : World) (T : TypeId) (r : Row) (v : Value) (l : List r.den) : Prop :=
  (∀ k, mine v k → ¬ F k) ∧ ∃ xs, ownsQ w base T r.size v l.length xs ∧ ∀ i (h : i < l.length), Rep F w r ((xs.drop (i * r.size)).take r.size) l[i]

variable {base b : Nat} {T : TypeId} {r : Row}

theorem BoxO.lt {x : r.den} (h : BoxO base F w b T r x) : ∀ k, is b k → k < w.heap.size := fun k hk => by
  obtain ⟨_, _, es, hh, _⟩ := h
  rw [hk]
  exact (Array.getElem?_eq_some_iff.1 hh).1
theorem BoxO.ge {x : r.den} (h : BoxO base F w b T r x) : ∀ k, is b k → base ≤ k := fun k hk => by rw [hk]; exact h.1
theorem BoxO.no {x : r.den} (h : BoxO base F w b T r x) : ∀ k, is b k → ¬ F k := fun k hk => by rw [hk]; exact h.2.1
theorem BoxO.st {x : r.den} (h : BoxO base F w b T r x) (hF : ∀ b, F b → b < w.heap.size) (hs : St w F w' F') : BoxO base F' w' b T r x := by
  have hlt := h.lt b rfl
  obtain ⟨h1, h2, es, hh, hr⟩ := h
  refine ⟨h1, fun e => ?_, es, (hs.below.block b hlt).trans hh, hr.step (hs.step hF)⟩
  rcases hs.new b e with h' | h'
  · exact h2 h'
  · omega
theorem BoxO.ext {x : r.den} (h : BoxO base F w b T r x) (hF : ∀ b, F b → b < w.heap.size) (he : Ext g w w') (hg : ∀ k, g k → ¬ F k) (hb : ∀ k, g k → ¬ is b k) : BoxO base F w' b T r x := by
  have hlt := h.lt b rfl
  obtain ⟨h1, h2, es, hh, hr⟩ := h
  exact ⟨h1, h2, es, (he.block b hlt fun e => hb b e rfl).trans hh, hr.step (Step.ext he hF hg)⟩
theorem BoxO.at {x : r.den} (h : BoxO base F w b T r x) : At F w r b 0 x := by
  obtain ⟨_, _, es, hh, hr⟩ := h
  exact ⟨es, hr.length, fun j u hu => by rw [Nat.zero_add, cell_of_row w b j _ T (0, 0) hh]; simpa using hu, hr⟩

theorem Own.lt {v : Value} {l : List r.den} (h : Own base F w T r v l) : ∀ k, mine v k → k < w.heap.size := by
  obtain ⟨_, xs, h, _⟩ := h
  exact fun k hk => (h.lt k hk).2
theorem Own.ge {v : Value} {l : List r.den} (h : Own base F w T r v l) : ∀ k, mine v k → base ≤ k := by
  obtain ⟨_, xs, h, _⟩ := h
  exact fun k hk => (h.lt k hk).1
theorem Own.no {v : Value} {l : List r.den} (h : Own base F w T r v l) : ∀ k, mine v k → ¬ F k := h.1
theorem Own.nil (base : Nat) (F : Nat → Prop) (w : World) (T : TypeId) (r : Row) : Own base F w T r (.slice none 0 0) [] :=
  ⟨fun k hk => by simp [mine, Value.ownBlock] at hk, [], ownsQ_nil _ _ _ _, fun i h => absurd h (by simp)⟩
theorem Own.keep {v : Value} {l : List r.den} (h : Own base F w T r v l) (hs : Step F w F' w') (h1 : ∀ k, mine v k → ¬ F' k ∧ w'.heap[k]? = w.heap[k]?) : Own base F' w' T r v l := by
  obtain ⟨_, xs, ⟨hx1, hx2⟩, h3⟩ := h
  refine ⟨fun k hk => (h1 k hk).1, xs, ⟨hx1, ?_⟩, fun i hi => (h3 i hi).step hs⟩
  rcases hx2 with h2 | ⟨gg, o0, cap, cur, rfl, hb, hg, rest⟩
  · exact .inl h2
  · exact .inr ⟨gg, o0, cap, cur, rfl, hb, (h1 gg rfl).2.trans hg, rest⟩
theorem Own.st {v : Value} {l : List r.den} (h : Own base F w T r v l) (hF : ∀ b, F b → b < w.heap.size) (hs : St w F w' F') : Own base F' w' T r v l :=
  h.keep (hs.step hF) fun k hk => ⟨fun e => by
    have hlt := h.lt k hk
    rcases hs.new k e with h' | h'
    · exact h.no k hk h'
    · omega, hs.below.block k (h.lt k hk)⟩
theorem Own.ext {v : Value} {l : List r.den} (h : Own base F w T r v l) (hF : ∀ b, F b → b < w.heap.size) (he : Ext g w w') (hg : ∀ k, g k → ¬ F k) (hb : ∀ k, g k → ¬ mine v k) : Own base F w' T r v l :=
  h.keep (Step.ext he hF hg) fun k hk => ⟨h.no k hk, he.block k (h.lt k hk) fun e => hb k e hk⟩

theorem Own.reads {v : Value} {l : List r.den} (h : Own base F w T r v l) : Reads F w r v l := by
  obtain ⟨_, xs, hx, h3⟩ := h
  have hlen := hx.1
  rcases hx.2 with ⟨rfl, h0⟩ | ⟨gg, o0, cap, cur, rfl, hb, hg, h1, h2, hcs, htake⟩
  · exact ⟨none, 0, by rw [h0], by omega, by simp [maxLen], fun i hi => absurd hi (by omega)⟩
  · refine ⟨_, cap, rfl, h1, h2, fun i hi => ⟨gg, o0, rfl, _, (h3 i hi).length, fun j u hu => ?_, h3 i hi⟩⟩
    rw [List.getElem?_take] at hu
    split at hu
    · rw [List.getElem?_drop] at hu
      rw [cell_of_row w gg _ cur T (0, 0) hg]
      rw [← htake, List.getElem?_take] at hu
      split at hu
      · rw [List.getElem?_drop] at hu
        simpa [Nat.add_assoc] using hu
      · cases hu
    · cases hu

/-- From now on it is read alone. -/
theorem Own.freeze {v : Value} {l : List r.den} (h : Own base F w T r v l) : Rep (fun b => F b ∨ mine v b) w (.slice r) [v] l := by
  obtain ⟨A, cap, hv, h1, h2, h3⟩ := h.reads
  refine ⟨A, cap, by rw [hv], h1, h2, fun i hi => ?_⟩
  obtain ⟨b, off, rfl, es, hel, hc, hr⟩ := h3 i hi
  subst hv
  exact ⟨b, off, es, rfl, .inr (by simp [mine, Value.ownBlock]), hel, hc, hr.step fun b hb => ⟨.inl hb, rfl⟩⟩

/-- What is apart stays apart from what is new. -/
theorem ap_new {g : Nat → Prop} {m : Nat} (hg : ∀ k, g k → k < m) {g' : Nat → Prop} (h : ∀ k, g' k → m ≤ k) : ∀ k, g' k → ¬ g k := fun k hk hg' => by have := hg k hg'; have := h k hk; omega
theorem ap_symm {g g' : Nat → Prop} (h : ∀ k, g k → ¬ g' k) : ∀ k, g' k → ¬ g k := fun k h1 h2 => h k h2 h1

/-! ## What a zero value is -/
@[reducible] def Row.zero : (r : Row) → r.den
  | .int _ => (0 : Int)
  | .bool => false
  | .str => ByteArray.empty
  | .slice _ => []
  | .hdr => .slice none 0 0
  | .nul _ => ()
  | .map .. => []
  | .pair a b => (a.zero, b.zero)
def Row.zeros : (r : Row) → List Value
  | .int k => [.int k 0]
  | .bool => [.bool false]
  | .str => [.string ByteArray.empty]
  | .slice _ => [.slice none 0 0]
  | .hdr => [.slice none 0 0]
  | .nul k => [k.val]
  | .map .. => [.map none]
  | .pair a b => a.zeros ++ b.zeros
theorem Rep.zero (F : Nat → Prop) (w : World) : (r : Row) → Rep F w r r.zeros r.zero
  | .int _ => rfl
  | .bool => rfl
  | .str => rfl
  | .slice e => Rep.nil F w e
  | .hdr => ⟨rfl, none, 0, 0, rfl⟩
  | .nul _ => rfl
  | .map .. => ⟨_, rfl, .inl ⟨rfl, rfl⟩⟩
  | .pair a b => ⟨_, _, rfl, Rep.zero F w a, Rep.zero F w b⟩

theorem BoxO.new (F : Nat → Prop) {w : World} (T : TypeId) {r : Row} {es : List Value} {x : r.den} (hF : ∀ b, F b → b < w.heap.size) (hb : base ≤ w.heap.size) (hr : Rep F w r es x) : BoxO base F (w.alloc (.cells es.toArray T)) w.heap.size T r x :=
  ⟨hb, fun e => by have := hF _ e; omega, es, heap_alloc_new w _, hr.step (Step.alloc hF _)⟩
end

/-! ## The rules -/
section
variable {P : Program} {n : Nat} {ops : Array Oper} {K : (Nat → Value) → World → Prop} {rest : List Oper} {ρ : Nat → Value} {w : World} {F : Nat → Prop} {base : Nat}
variable {d : Nat} {ty : TypeId} {pos : String} {aft : Array Edge} {x y : Operand} {t : TypeId}

theorem run_alloc {dd : Option Nat} {ti : TypeInfo} {z : Value} (hi : P.info? t = some ti) (hz : ti.zero = some z) :
    (execOp (ev ρ) ⟨dd, .alloc t, ty, pos, aft, none⟩).run P w = .ok (.value (.pointer (some ⟨w.heap.size, 0, none⟩))) (w.alloc (.cells z.cells t)) := by
  simp [execOp, Instr.alloc, zeroValue, typeInfo, hi, hz, newVar, newRow]
theorem run_box {dd : Option Nat} {v : Value} (hx : ev ρ x = v) :
    (execOp (ev ρ) ⟨dd, .box t x, ty, pos, aft, none⟩).run P w = .ok (.value (.pointer (some ⟨w.heap.size, 0, none⟩))) (w.alloc (.cells v.cells t)) := by
  simp [execOp, Instr.box, hx, newVar, newRow]

/-- A store into cells of a row of the call's own. -/
theorem run_storeRow {dd : Option Nat} {ti : TypeInfo} {b off : Nat} {cur : Array Value} {T : TypeId} {v : Value} {vs : List Value} (hi : P.info? t = some ti) (hs : ti.size = vs.length) (hx : ev ρ x = .pointer (some ⟨b, off, none⟩)) (hy : ev ρ y = v)
    (hv : v.cells.toList = vs) (h1 : ∀ u ∈ vs, u.oneCell' = true) (hg : w.heap[b]? = some (.cells cur T (0, 0))) (hl : off + vs.length ≤ cur.size) :
    (execOp (ev ρ) ⟨dd, .store t x y, ty, pos, aft, none⟩).run P w = .ok .skip (w.setRow b (cur.toList.take off ++ vs ++ cur.toList.drop (off + vs.length)).toArray) := by
  have hst := run_storeCells_at P b off T vs 0 cur w hg (by omega) h1
  have hsz : v.cells.size = ti.size := by rw [hs, ← hv]; simp
  simp only [Nat.add_zero] at hst
  simp [execOp, Instr.storeAt, Instr.sureAddr, storeVar, sizeOf, typeInfo, hi, hsz, hx, hy, hv, hst]

theorem ext_setRow (w : World) (b : Nat) (cs : Array Value) : Ext (is b) w (w.setRow b cs) :=
  ⟨rfl, rfl, rfl, by simp, fun k _ hk => setRow_other w b k cs hk⟩

theorem BoxO.put {w : World} {b : Nat} {T : TypeId} {r s : Row} {a : r.den} {es : List Value} (hh : w.heap[b]? = some (.cells es.toArray T (0, 0))) (hr : Rep F w r es a) (hb : base ≤ b) (hn : ¬ F b) (hF : ∀ b, F b → b < w.heap.size) (p : Path r s) {vs : List Value} {u : s.den} (hv : Rep F w s vs u) :
    BoxO base F (w.setRow b (es.take p.off ++ vs ++ es.drop (p.off + s.size)).toArray) b T r (p.set a u) :=
  ⟨hb, hn, _, setRow_heap w b _ _ T (0, 0) hh, (hr.put p hv).step (Step.ext (ext_setRow w b _) hF fun k hk => by rw [show k = b from hk]; exact hn)⟩

/-! ### slices of the call's own -/

def mkL {α : Type} (m : Int) (z : α) : Option (List α) := if 0 ≤ m ∧ m ≤ 4294967296 then some (List.replicate m.toNat z) else none
def appA {α : Type} (l m : List α) : Option (List α) := if l.length + m.length ≤ 4294967296 then some (l ++ m) else none
def setI {α : Type} (l : List α) (i : Int) (y : α) : Option (List α) := if 0 ≤ i ∧ i < l.length then some (l.set i.toNat y) else none

theorem getElem_madeCells (z : Array Value) (m j : Nat) (hj : j < m) (hz : 0 < z.size) : (madeCells z m).toList[j]? = z[j % z.size]? := by
  have : j % z.size < z.size := Nat.mod_lt _ hz
  simp [madeCells, hj, this]

theorem made_seg (z : List Value) (m i : Nat) (hz : 0 < z.length) (hi : i < m) : (((madeCells z.toArray (m * z.length)).toList.drop (i * z.length)).take z.length) = z := by
  apply List.ext_getElem?
  intro j
  rw [List.getElem?_take, List.getElem?_drop]
  split
  · rename_i hj
    have hle : (i + 1) * z.length ≤ m * z.length := Nat.mul_le_mul_right _ hi
    rw [Nat.add_mul] at hle
    rw [getElem_madeCells z.toArray (m * z.length) (i * z.length + j) (by omega) (by simpa using hz)]
    rw [show z.toArray.size = z.length from by simp, List.getElem?_toArray]
    rw [Nat.add_comm, Nat.add_mul_mod_self_right, Nat.mod_eq_of_lt hj]
  · rename_i hj
    rw [List.getElem?_eq_none (by omega)]

/-- The cells of what is read, in one list. -/
theorem Reads.news {r : Row} {A : Option Addr} {cap m : Nat} {l : List r.den} (h : Reads F w r (.slice A m cap) l) (b off : Nat) (hA : A = some ⟨b, off, none⟩) :
    ∃ news : List Value, news.length = l.length * r.size ∧ (∀ j u, news[j]? = some u → w.cell? ⟨b, off + j, none⟩ = some u) ∧ ∀ i (hi : i < l.length), Rep F w r ((news.drop (i * r.size)).take r.size) l[i] := by
  subst hA
  obtain ⟨A', cap', hv, _, _, h4⟩ := h
  simp only [Value.slice.injEq] at hv
  obtain ⟨rfl, _, _⟩ := hv
  have hpos := r.size_pos
  have hcell : ∀ j, j < l.length * r.size → ∃ u, w.cell? ⟨b, off + j, none⟩ = some u := by
    intro j hj
    have hi : j / r.size < l.length := Nat.div_lt_of_lt_mul (by rwa [Nat.mul_comm])
    obtain ⟨b', off', hb', es, hel, hc, _⟩ := h4 _ hi
    simp only [Option.some.injEq, Addr.mk.injEq, and_true] at hb'
    obtain ⟨rfl, rfl⟩ := hb'
    have hj2 : j % r.size < es.length := by rw [hel]; exact Nat.mod_lt _ hpos
    have := hc (j % r.size) _ (List.getElem?_eq_getElem hj2)
    rw [Nat.add_assoc, Nat.div_add_mod'] at this
    exact ⟨_, this⟩
  have hget : ∀ j u, ((List.range (l.length * r.size)).map fun j => (w.cell? ⟨b, off + j, none⟩).getD undef)[j]? = some u ↔ j < l.length * r.size ∧ w.cell? ⟨b, off + j, none⟩ = some u := by
    intro j u
    by_cases hj : j < l.length * r.size
    · obtain ⟨q, hq⟩ := hcell j hj
      simp [hj, hq]
    · simp [hj]
  refine ⟨(List.range (l.length * r.size)).map fun j => (w.cell? ⟨b, off + j, none⟩).getD undef, by simp, fun j u hu => ((hget j u).1 hu).2, fun i hi => ?_⟩
  obtain ⟨b', off', hb', es, hel, hc, hr⟩ := h4 i hi
  simp only [Option.some.injEq, Addr.mk.injEq, and_true] at hb'
  obtain ⟨rfl, rfl⟩ := hb'
  have he : (((List.range (l.length * r.size)).map fun j => (w.cell? ⟨b, off + j, none⟩).getD undef).drop (i * r.size)).take r.size = es := by
    have hle : (i + 1) * r.size ≤ l.length * r.size := Nat.mul_le_mul_right _ hi
    rw [Nat.add_mul] at hle
    apply List.ext_getElem?
    intro j
    rw [List.getElem?_take, List.getElem?_drop]
    split
    · rename_i hj
      rw [(hget (i * r.size + j) (es[j]'(by omega))).2 ⟨by omega, by rw [← Nat.add_assoc]; exact hc j _ (List.getElem?_eq_getElem (by omega))⟩, List.getElem?_eq_getElem (by omega)]
    · rw [List.getElem?_eq_none (by omega)]
  rw [he]
  exact hr

theorem run_append_of_nil (w : World) (base : Nat) (t ty e : TypeId) (i : TypeInfo) (size : Nat) (ht : P.underlying t = some (.slice e)) (hi : P.info? e = some i)
    (v : Value) (n : Nat) (xs : List Value) (hown : ownsQ w base e size v n xs) (c : Nat) : (Builtin.append_ #[t, t] ty #[v, .slice none 0 c]).run P w = .ok v w := by
  rcases hown.2 with ⟨rfl, rfl⟩ | ⟨g, o0, cap, cur, rfl, _, _, hnc, _⟩
  · simp [Builtin.append_, run_underlying ht, sizeOf, typeInfo, hi, Builtin.lenOf, Builtin.firstCells]
  · simp [Builtin.append_, run_underlying ht, sizeOf, typeInfo, hi, Builtin.lenOf, Builtin.firstCells, hnc, storeCells]

/-- append onto a row of the call's own that lies from some cell on. -/
theorem run_append_q (w : World) (base : Nat) (t ty e : TypeId) (i : TypeInfo) (z : Value) (size bytes : Nat) (ht : P.underlying t = some (.slice e)) (hi : P.info? e = some i) (hz : i.zero = some z)
    (hsize : i.size = size) (hby : i.bytes = bytes) (hzs : z.cells.size = size) (hsz : 0 < size)
    (v : Value) (n : Nat) (xs : List Value) (hown : ownsQ w base e size v n xs)
    (a : Addr) (m c : Nat) (news : List Value) (hl : news.length = m * size) (hnews : ∀ j u, news[j]? = some u → w.cell? (a.add j) = some u) (h1 : ∀ u ∈ news, u.oneCell' = true)
    (h63 : n + m ≤ maxLen) (hbytes : (n + m) * bytes ≤ 140737488355328) (hbase : base ≤ w.heap.size) :
    ∃ v' w', (Builtin.append_ #[t, t] ty #[v, .slice (some a) m c]).run P w = .ok v' w' ∧ ownsQ w' base e size v' (n + m) (xs ++ news) ∧ w.grownBy w' v.ownBlock ∧
      (v'.ownBlock = v.ownBlock ∨ v'.ownBlock = some w.heap.size) := by
  rcases hown.2 with ⟨rfl, rfl⟩ | ⟨g, o0, cap, cur, rfl, hbg, hg, hnc, hcm, hcs, htake⟩
  · have hx : xs = [] := List.eq_nil_of_length_eq_zero (by simpa using hown.1)
    subst hx
    obtain ⟨v', w', g1, g2, g3, _, g4⟩ := run_append_own_at (P := P) w base t ty e i z size bytes ht hi hz hsize hby hzs hsz (.slice none 0 0) 0 [] (World.ownsRow_nil w base e size) a m c news hl hnews h1 h63 hbytes hbase
    exact ⟨v', w', g1, .of g2, g3, g4⟩
  subst hsize
  subst hby
  have hsmall : n + m ≤ 9223372036854775807 := by simp only [maxLen] at h63; omega
  have hlen : (xs ++ news).length = (n + m) * i.size := by rw [List.length_append, hown.1, hl, Nat.add_mul]
  have hnm : n * i.size + news.length = (n + m) * i.size := by rw [hl, Nat.add_mul]
  have hncs : n * i.size ≤ cap * i.size := Nat.mul_le_mul_right _ hnc
  by_cases hroom : n + m ≤ cap
  · have hcap : (n + m) * i.size ≤ cap * i.size := Nat.mul_le_mul_right _ hroom
    have hf := run_firstCells_some (P := P) w i.size m a m c news hl hnews
    have hst := run_storeCells_at P g (o0 + n * i.size) e news 0 cur w hg (by omega) h1
    simp only [Nat.add_zero] at hst
    have hr : (Builtin.append_ #[t, t] ty #[.slice (some ⟨g, o0, none⟩) n cap, .slice (some a) m c]).run P w =
        .ok (.slice (some ⟨g, o0, none⟩) (n + m) cap) (w.setRow g (cur.toList.take (o0 + n * i.size) ++ news ++ cur.toList.drop (o0 + n * i.size + news.length)).toArray) := by
      simp [Builtin.append_, run_underlying ht, sizeOf, typeInfo, hi, Builtin.lenOf, hroom, hf, Addr.add_lit, hst]
    refine ⟨_, _, hr, ⟨hlen, .inr ⟨g, o0, cap, _, rfl, hbg, setRow_heap w g cur _ e _ hg, hroom, hcm, ?_, ?_⟩⟩, ⟨rfl, rfl, rfl, by simp, fun k _ hk => setRow_other w g k _ (fun e => hk (by simp [Value.ownBlock, e]))⟩, Or.inl rfl⟩
    · simp only [List.size_toArray, List.length_append, List.length_take, List.length_drop, Array.length_toList]
      omega
    · rw [List.toList_toArray, List.append_assoc, List.drop_append_of_le_length (by simp; omega), List.drop_take, Nat.add_sub_cancel_left, htake, ← List.append_assoc, ← hlen]
      exact List.take_left
  · have holds : ∀ j u, xs[j]? = some u → w.cell? ((⟨g, o0, none⟩ : Addr).add j) = some u := fun j u hj => by
      rw [addr_add_none, cell_of_row w g _ cur e (0, 0) hg]
      rw [← htake, List.getElem?_take] at hj
      split at hj
      · rw [List.getElem?_drop] at hj
        simpa using hj
      · cases hj
    have hr := run_append_grow (P := P) w t ty e i z ht hi hz ⟨g, o0, none⟩ n cap xs hown.1 holds a m c news hl hnews (by omega) (by omega) (growslice_fits (by omega) hbytes)
    have hge := grownCap_ge w (n + m) cap e
    have hcm' : grownCap w (n + m) cap e ≤ maxLen := grownCap_le_maxLen w (n + m) cap e h63
    refine ⟨_, _, hr, .of ⟨hlen, .inr ⟨w.heap.size, _, _, rfl, hbase, heap_alloc_new w.drew _, hge, hcm', ?_, ?_⟩⟩, ⟨rfl, rfl, rfl, by simp, fun k hk _ => heap_alloc_old w.drew _ hk⟩, Or.inr rfl⟩
    · simp only [Array.size_append, List.size_toArray, size_zeroCells, hzs, hown.1, hl, ← Nat.add_mul]
      congr 1
      omega
    · simp only [Array.toList_append, List.append_assoc]
      rw [← List.append_assoc, ← hlen]
      exact List.take_left

theorem Reads.same {r : Row} {v : Value} {l : List r.den} (h : Reads F w r v l) : Reads F w r v l := h

/-- append(v, m...) onto a slice of the call's own. -/
theorem run_append {e : TypeId} {ti : TypeInfo} {z : Value} {r : Row} {v u : Value} {l m out : List r.den} (ty : TypeId) (ht : P.underlying t = some (.slice e)) (hi : P.info? e = some ti) (hz : ti.zero = some z) (hzr : z.cells.toList = r.zeros) (hs : ti.size = r.size) (hby : ti.bytes ≤ 32768)
    (hv : Own base F w e r v l) (hu : Reads F w r u m) (hm : appA l m = some out) (hF : ∀ b, F b → b < w.heap.size) (hb : base ≤ w.heap.size) :
    ∃ v' w', (Builtin.append_ #[t, t] ty #[v, u]).run P w = .ok v' w' ∧ Ext (mine v) w w' ∧ Own base F w' e r v' out ∧ (mine v' = mine v ∨ mine v' = (w.heap.size = ·)) := by
  unfold appA at hm
  split at hm
  case isFalse => cases hm
  rename_i hlen
  obtain rfl := Option.some.inj hm
  have hzs : z.cells.size = r.size := by rw [← (Rep.zero F w r).length, ← hzr]; simp
  obtain ⟨hno, xs, hx, h3⟩ := hv
  have hu0 := hu
  obtain ⟨A, cap, rfl, hmc, hcm, hel⟩ := hu
  have hfin : ∀ (v' : Value) (w' : World) (news : List Value), news.length = m.length * r.size → (∀ i (hi : i < m.length), Rep F w r ((news.drop (i * r.size)).take r.size) m[i]) →
      ownsQ w' base e r.size v' (l.length + m.length) (xs ++ news) → w.grownBy w' v.ownBlock → (v'.ownBlock = v.ownBlock ∨ v'.ownBlock = some w.heap.size) →
      Ext (mine v) w w' ∧ Own base F w' e r v' (l ++ m) ∧ (mine v' = mine v ∨ mine v' = (w.heap.size = ·)) := by
    intro v' _ news hnl hnr hown' hg hat
    have hm : mine v' = mine v ∨ mine v' = (w.heap.size = ·) := by
      rcases hat with h | h
      · exact .inl (by unfold mine; rw [h])
      · refine .inr ?_
        funext b
        unfold mine
        rw [h]
        simp
    have hext := Ext.of_grown hg (g := mine v) fun k hk => hk
    have hstep := Step.ext hext hF hno
    refine ⟨hext, ⟨fun k hk => ?_, xs ++ news, by simpa using hown', fun k hk => ?_⟩, hm⟩
    · rcases hm with h | h
      · rw [h] at hk; exact hno k hk
      · rw [h] at hk
        intro hf
        have := hF k hf
        omega
    · have hxl := hx.1
      rcases Nat.lt_or_ge k l.length with hlt | hge
      · have hle : (k + 1) * r.size ≤ l.length * r.size := Nat.mul_le_mul_right _ hlt
        rw [Nat.add_mul] at hle
        rw [List.getElem_append_left hlt, List.drop_append_of_le_length (by omega), List.take_append_of_le_length (by rw [List.length_drop]; omega)]
        exact (h3 k hlt).step hstep
      · have hk2 : k - l.length < m.length := by simp at hk; omega
        have hmul : k * r.size = l.length * r.size + (k - l.length) * r.size := by rw [← Nat.add_mul]; congr 1; omega
        rw [List.getElem_append_right hge, List.drop_append, hxl, List.drop_of_length_le (by omega), List.nil_append, show k * r.size - l.length * r.size = (k - l.length) * r.size from by omega]
        exact (hnr _ hk2).step hstep
  cases A with
  | none =>
    have hm0 : m = [] := by
      cases m with
      | nil => rfl
      | cons a q => obtain ⟨b, off, h, _⟩ := hel 0 (by simp); cases h
    subst hm0
    refine ⟨v, w, run_append_of_nil w base t ty e ti r.size ht hi v _ xs hx _, ?_⟩
    exact hfin v w [] (by simp) (fun i hi => absurd hi (by simp)) (by simpa using hx) ⟨rfl, rfl, rfl, Nat.le_refl _, fun _ _ _ => rfl⟩ (.inl rfl)
  | some ad =>
    have key : ∃ news : List Value, news.length = m.length * r.size ∧ (∀ j u, news[j]? = some u → w.cell? (ad.add j) = some u) ∧ ∀ i (hi : i < m.length), Rep F w r ((news.drop (i * r.size)).take r.size) m[i] := by
      cases m with
      | nil => exact ⟨[], by simp, fun j u h => by simp at h, fun i hi => absurd hi (by simp)⟩
      | cons a q =>
        obtain ⟨b, off, h, _⟩ := hel 0 (by simp)
        obtain ⟨news, h1, h2, h3⟩ := hu0.news b off h
        obtain rfl : ad = ⟨b, off, none⟩ := by simpa using h
        exact ⟨news, h1, fun j u hj => by rw [addr_add_none]; exact h2 j u hj, h3⟩
    obtain ⟨news, hnl, hnc, hnr⟩ := key
    have hone : ∀ u ∈ news, u.oneCell' = true := by
      intro u hu
      obtain ⟨j, hj, rfl⟩ := List.getElem_of_mem hu
      have hpos := r.size_pos
      have hi : j / r.size < m.length := Nat.div_lt_of_lt_mul (by rw [Nat.mul_comm, ← hnl]; exact hj)
      have hr := hnr _ hi
      refine hr.oneCell _ ?_
      have hle : (j / r.size) * r.size + j % r.size = j := Nat.div_add_mod' j r.size
      have hlt := Nat.mod_lt j hpos
      rw [List.mem_iff_getElem?]
      refine ⟨j % r.size, ?_⟩
      rw [List.getElem?_take, if_pos hlt, List.getElem?_drop, hle, List.getElem?_eq_getElem hj]
    obtain ⟨v', w', hrun, hown', hg, hat⟩ := run_append_q (P := P) w base t ty e ti z r.size ti.bytes ht hi hz hs rfl hzs r.size_pos v l.length xs hx ad m.length cap news hnl hnc hone (by simp only [maxLen]; omega)
      (Nat.le_trans (Nat.mul_le_mul hlen hby) (by omega)) hb
    exact ⟨v', w', hrun, hfin v' w' news hnl hnr hown' hg hat⟩

end
end Go.Proofs.YtjeeligfdpociaaGreat
