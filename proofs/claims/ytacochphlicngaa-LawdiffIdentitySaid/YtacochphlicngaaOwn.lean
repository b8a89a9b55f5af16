/- Memory in the walks: variables and slices of the call's own. -/
import Derived.Test.YtacochphlicngaaMem
namespace Go.Proofs.Ytacochphlicngaa
open Go Go.RowKit

/-- Beyond the blocks of g the world w' is as w was. -/
structure Ext (g : Nat → Prop) (w w' : World) : Prop where
  os : w'.os = w.os
  tape : w'.tape = w.tape
  output : w'.output = w.output
  size : w.heap.size ≤ w'.heap.size
  block : ∀ k, k < w.heap.size → ¬ g k → w'.heap[k]? = w.heap[k]?

theorem Ext.of_grown {g : Nat → Prop} {a b : World} {row : Option Nat} (h : a.grownBy b row) (hs : ∀ k, row = some k → g k) : Ext g a b :=
  ⟨h.os, h.tape, h.output, h.size, fun k hk hn => h.block k hk fun e => hn (hs k e.symm)⟩

section
variable {w0 w w' : World} {F0 F F' : Nat → Prop} {g : Nat → Prop}

theorem St.ext (h : St w0 F0 w F) (he : Ext g w w') (hg : ∀ k, g k → w0.heap.size ≤ k) : St w0 F0 w' F :=
  ⟨h.below.trans ⟨he.os, he.tape, he.output, he.size, fun k hk => by
    rcases Nat.lt_or_ge k w.heap.size with hlt | hge
    · exact he.block k hlt fun e => by have := hg k e; omega
    · have := h.below.size; omega⟩, h.le, h.new, fun b hb => Nat.lt_of_lt_of_le (h.lt b hb) he.size⟩
theorem Step.ext (he : Ext g w w') (hF : ∀ b, F b → b < w.heap.size) (hg : ∀ k, g k → ¬ F k) : Step F w F w' :=
  fun b hb => ⟨hb, he.block b (hF b hb) fun e => hg b e hb⟩

/-- A variable of the call's own: the block b. -/
def BoxO (base : Nat) (F : Nat → Prop) (w : World) (b : Nat) (T : TypeId) (r : Row) (x : r.den) : Prop :=
  base ≤ b ∧ ¬ F b ∧ ∃ es, w.heap[b]? = some (.cells es.toArray T (0, 0)) ∧ Rep F w r es x

def mine (v : Value) (k : Nat) : Prop := v.ownBlock = some k
def is (b k : Nat) : Prop := k = b

/-- A slice of the call's own: nil, or a row in a block of its own. -/
def Own (base : Nat) (F : Nat → Prop) (w : World) (T : TypeId) (r : Row) (v : Value) (l : List r.den) : Prop :=
  (∀ k, mine v k → ¬ F k) ∧ ∃ xs, w.ownsRow base T r.size v l.length xs ∧ ∀ i (h : i < l.length), Rep F w r ((xs.drop (i * r.size)).take r.size) l[i]

variable {base b : Nat} {T : TypeId} {r : Row}

theorem BoxO.lt {x : r.den} (h : BoxO base F w b T r x) : ∀ k, is b k → k < w.heap.size := fun k hk => by
  obtain ⟨_, _, es, hh, _⟩ := h
  rw [hk]
  exact (Array.getElem?_eq_some_iff.1 hh).1
theorem BoxO.ge {x : r.den} (h : BoxO base F w b T r x) : ∀ k, is b k → base ≤ k := fun k hk => by rw [hk]; exact h.1
theorem BoxO.no {x : r.den} (h : BoxO base F w b T r x) : ∀ k, is b k → ¬ F k := fun k hk => by rw [hk]; exact h.2.1
theorem BoxO.st {x : r.den} (h : BoxO base F w b T r x) (hF : ∀ b, F b → b < w.heap.size) (hs : St w F w' F') : BoxO base F' w' b T r x := by
  have hlt := h.lt b rfl
  obtain ⟨h1, h2, es, hh, hr⟩ := h
  refine ⟨h1, fun e => ?_, es, (hs.below.block b hlt).trans hh, hr.step (hs.step hF)⟩
  rcases hs.new b e with h' | h'
  · exact h2 h'
  · omega
theorem BoxO.ext {x : r.den} (h : BoxO base F w b T r x) (hF : ∀ b, F b → b < w.heap.size) (he : Ext g w w') (hg : ∀ k, g k → ¬ F k) (hb : ∀ k, g k → ¬ is b k) : BoxO base F w' b T r x := by
  have hlt := h.lt b rfl
  obtain ⟨h1, h2, es, hh, hr⟩ := h
  exact ⟨h1, h2, es, (he.block b hlt fun e => hb b e rfl).trans hh, hr.step (Step.ext he hF hg)⟩
theorem BoxO.at {x : r.den} (h : BoxO base F w b T r x) : At F w r b 0 x := by
  obtain ⟨_, _, es, hh, hr⟩ := h
  exact ⟨es, hr.length, fun j u hu => by rw [Nat.zero_add, cell_of_row w b j _ T (0, 0) hh]; simpa using hu, hr⟩

theorem Own.lt {v : Value} {l : List r.den} (h : Own base F w T r v l) : ∀ k, mine v k → k < w.heap.size := by
  obtain ⟨_, xs, h, _⟩ := h
  exact fun k hk => (h.lt k hk).2
theorem Own.ge {v : Value} {l : List r.den} (h : Own base F w T r v l) : ∀ k, mine v k → base ≤ k := by
  obtain ⟨_, xs, h, _⟩ := h
  exact fun k hk => (h.lt k hk).1
theorem Own.no {v : Value} {l : List r.den} (h : Own base F w T r v l) : ∀ k, mine v k → ¬ F k := h.1
theorem Own.nil (base : Nat) (F : Nat → Prop) (w : World) (T : TypeId) (r : Row) : Own base F w T r (.slice none 0 0) [] :=
  ⟨fun k hk => by simp [mine, Value.ownBlock] at hk, [], World.ownsRow_nil _ _ _ _, fun i h => absurd h (by simp)⟩
theorem Own.keep {v : Value} {l : List r.den} (h : Own base F w T r v l) (hs : Step F w F' w') (h1 : ∀ k, mine v k → ¬ F' k ∧ w'.heap[k]? = w.heap[k]?) : Own base F' w' T r v l := by
  obtain ⟨_, xs, ⟨hx1, hx2⟩, h3⟩ := h
  refine ⟨fun k hk => (h1 k hk).1, xs, ⟨hx1, ?_⟩, fun i hi => (h3 i hi).step hs⟩
  rcases hx2 with h2 | ⟨gg, cap, cur, rfl, hb, hg, rest⟩
  · exact .inl h2
  · exact .inr ⟨gg, cap, cur, rfl, hb, (h1 gg rfl).2.trans hg, rest⟩
theorem Own.st {v : Value} {l : List r.den} (h : Own base F w T r v l) (hF : ∀ b, F b → b < w.heap.size) (hs : St w F w' F') : Own base F' w' T r v l :=
  h.keep (hs.step hF) fun k hk => ⟨fun e => by
    have hlt := h.lt k hk
    rcases hs.new k e with h' | h'
    · exact h.no k hk h'
    · omega, hs.below.block k (h.lt k hk)⟩
theorem Own.ext {v : Value} {l : List r.den} (h : Own base F w T r v l) (hF : ∀ b, F b → b < w.heap.size) (he : Ext g w w') (hg : ∀ k, g k → ¬ F k) (hb : ∀ k, g k → ¬ mine v k) : Own base F w' T r v l :=
  h.keep (Step.ext he hF hg) fun k hk => ⟨h.no k hk, he.block k (h.lt k hk) fun e => hb k e hk⟩

theorem Own.reads {v : Value} {l : List r.den} (h : Own base F w T r v l) : Reads F w r v l := by
  obtain ⟨_, xs, hx, h3⟩ := h
  have hlen := hx.1
  rcases hx.2 with ⟨rfl, h0⟩ | ⟨gg, cap, cur, rfl, hb, hg, h1, h2, hcs, htake⟩
  · exact ⟨none, 0, by rw [h0], by omega, by simp [maxLen], fun i hi => absurd hi (by omega)⟩
  · refine ⟨_, cap, rfl, h1, h2, fun i hi => ⟨gg, 0, rfl, _, (h3 i hi).length, fun j u hu => ?_, h3 i hi⟩⟩
    rw [List.getElem?_take] at hu
    split at hu
    · rw [List.getElem?_drop] at hu
      rw [Nat.zero_add, cell_of_row w gg _ cur T (0, 0) hg]
      rw [← htake, List.getElem?_take] at hu
      split at hu
      · simpa using hu
      · cases hu
    · cases hu

/-- From now on it is read alone. -/
theorem Own.freeze {v : Value} {l : List r.den} (h : Own base F w T r v l) : Rep (fun b => F b ∨ mine v b) w (.slice r) [v] l := by
  obtain ⟨A, cap, hv, h1, h2, h3⟩ := h.reads
  refine ⟨A, cap, by rw [hv], h1, h2, fun i hi => ?_⟩
  obtain ⟨b, off, rfl, es, hel, hc, hr⟩ := h3 i hi
  subst hv
  exact ⟨b, off, es, rfl, .inr (by simp [mine, Value.ownBlock]), hel, hc, hr.step fun b hb => ⟨.inl hb, rfl⟩⟩

/-- What is apart stays apart from what is new. -/
theorem ap_new {g : Nat → Prop} {m : Nat} (hg : ∀ k, g k → k < m) {g' : Nat → Prop} (h : ∀ k, g' k → m ≤ k) : ∀ k, g' k → ¬ g k := fun k hk hg' => by have := hg k hg'; have := h k hk; omega
theorem ap_symm {g g' : Nat → Prop} (h : ∀ k, g k → ¬ g' k) : ∀ k, g' k → ¬ g k := fun k h1 h2 => h k h2 h1

/-! ## What a zero value is -/
@[reducible] def Row.zero : (r : Row) → r.den
  | .int _ => (0 : Int)
  | .bool => false
  | .str => ByteArray.empty
  | .slice _ => []
  | .hdr => .slice none 0 0
  | .nul _ => ()
  | .map .. => []
  | .pair a b => (a.zero, b.zero)
def Row.zeros : (r : Row) → List Value
  | .int k => [.int k 0]
  | .bool => [.bool false]
  | .str => [.string ByteArray.empty]
  | .slice _ => [.slice none 0 0]
  | .hdr => [.slice none 0 0]
  | .nul k => [k.val]
  | .map .. => [.map none]
  | .pair a b => a.zeros ++ b.zeros
theorem Rep.zero (F : Nat → Prop) (w : World) : (r : Row) → Rep F w r r.zeros r.zero
  | .int _ => rfl
  | .bool => rfl
  | .str => rfl
  | .slice e => Rep.nil F w e
  | .hdr => ⟨rfl, none, 0, 0, rfl⟩
  | .nul _ => rfl
  | .map .. => ⟨_, rfl, .inl ⟨rfl, rfl⟩⟩
  | .pair a b => ⟨_, _, rfl, Rep.zero F w a, Rep.zero F w b⟩

theorem BoxO.new (F : Nat → Prop) {w : World} (T : TypeId) {r : Row} {es : List Value} {x : r.den} (hF : ∀ b, F b → b < w.heap.size) (hb : base ≤ w.heap.size) (hr : Rep F w r es x) : BoxO base F (w.alloc (.cells es.toArray T)) w.heap.size T r x :=
  ⟨hb, fun e => by have := hF _ e; omega, es, heap_alloc_new w _, hr.step (Step.alloc hF _)⟩
end

/-! ## The rules -/
section
variable {P : Program} {n : Nat} {ops : Array Oper} {K : (Nat → Value) → World → Prop} {rest : List Oper} {ρ : Nat → Value} {w : World} {F : Nat → Prop} {base : Nat}
variable {d : Nat} {ty : TypeId} {pos : String} {aft : Array Edge} {x y : Operand} {t : TypeId}

theorem run_alloc {dd : Option Nat} {ti : TypeInfo} {z : Value} (hi : P.info? t = some ti) (hz : ti.zero = some z) :
    (execOp (ev ρ) ⟨dd, .alloc t, ty, pos, aft, none⟩).run P w = .ok (.value (.pointer (some ⟨w.heap.size, 0, none⟩))) (w.alloc (.cells z.cells t)) := by
  simp [execOp, Instr.alloc, zeroValue, typeInfo, hi, hz, newVar, newRow]
theorem run_box {dd : Option Nat} {v : Value} (hx : ev ρ x = v) :
    (execOp (ev ρ) ⟨dd, .box t x, ty, pos, aft, none⟩).run P w = .ok (.value (.pointer (some ⟨w.heap.size, 0, none⟩))) (w.alloc (.cells v.cells t)) := by
  simp [execOp, Instr.box, hx, newVar, newRow]

theorem wpS_alloc {ti : TypeInfo} {z : Value} (r : Row) (hi : P.info? t = some ti) (hz : ti.zero = some z) (hzr : z.cells.toList = r.zeros) (hF : ∀ b, F b → b < w.heap.size) (hb : base ≤ w.heap.size) (hd : Nat.blt d n = true)
    (h : ∀ b w', St w F w' F → BoxO base F w' b t r r.zero → w.heap.size ≤ b → wpS P n ops K rest (upd ρ d (.pointer (some ⟨b, 0, none⟩))) w') : wpS P n ops K (⟨some d, .alloc t, ty, pos, aft, none⟩ :: rest) ρ w :=
  wpS_eff _ _ (run_alloc hi hz) hd (h _ _ ((St.refl hF).alloc _) (by
    have := BoxO.new (base := base) F t hF hb (Rep.zero F w r)
    rw [← hzr, Array.toArray_toList] at this
    exact this) (Nat.le_refl _))
theorem wpS_box {es : List Value} {r : Row} {a : r.den} (hx : ev ρ x = .agg es.toArray) (hr : Rep F w r es a) (hF : ∀ b, F b → b < w.heap.size) (hb : base ≤ w.heap.size) (hd : Nat.blt d n = true)
    (h : ∀ b w', St w F w' F → BoxO base F w' b t r a → w.heap.size ≤ b → wpS P n ops K rest (upd ρ d (.pointer (some ⟨b, 0, none⟩))) w') : wpS P n ops K (⟨some d, .box t x, ty, pos, aft, none⟩ :: rest) ρ w :=
  wpS_eff _ _ (run_box hx) hd (h _ _ ((St.refl hF).alloc _) (BoxO.new F t hF hb hr) (Nat.le_refl _))
theorem wpS_box1 {v : Value} {r : Row} {a : r.den} (hx : ev ρ x = v) (hr : Rep F w r [v] a) (hF : ∀ b, F b → b < w.heap.size) (hb : base ≤ w.heap.size) (hd : Nat.blt d n = true)
    (h : ∀ b w', St w F w' F → BoxO base F w' b t r a → w.heap.size ≤ b → wpS P n ops K rest (upd ρ d (.pointer (some ⟨b, 0, none⟩))) w') : wpS P n ops K (⟨some d, .box t x, ty, pos, aft, none⟩ :: rest) ρ w := by
  have h1 := hr.oneCell v (by simp)
  have hc : v.cells = [v].toArray := by cases v <;> first | rfl | simp [Value.oneCell'] at h1
  have hrun := run_box (P := P) (w := w) (dd := some d) (t := t) (ty := ty) (pos := pos) (aft := aft) hx
  rw [hc] at hrun
  exact wpS_eff _ _ hrun hd (h _ _ ((St.refl hF).alloc _) (BoxO.new F t hF hb hr) (Nat.le_refl _))

/-- A store into cells of a row of the call's own. -/
theorem run_storeRow {dd : Option Nat} {ti : TypeInfo} {b off : Nat} {cur : Array Value} {T : TypeId} {v : Value} {vs : List Value} (hi : P.info? t = some ti) (hs : ti.size = vs.length) (hx : ev ρ x = .pointer (some ⟨b, off, none⟩)) (hy : ev ρ y = v)
    (hv : v.cells.toList = vs) (h1 : ∀ u ∈ vs, u.oneCell' = true) (hg : w.heap[b]? = some (.cells cur T (0, 0))) (hl : off + vs.length ≤ cur.size) :
    (execOp (ev ρ) ⟨dd, .store t x y, ty, pos, aft, none⟩).run P w = .ok .skip (w.setRow b (cur.toList.take off ++ vs ++ cur.toList.drop (off + vs.length)).toArray) := by
  have hst := run_storeCells_at P b off T vs 0 cur w hg (by omega) h1
  have hsz : v.cells.size = ti.size := by rw [hs, ← hv]; simp
  simp only [Nat.add_zero] at hst
  simp [execOp, Instr.storeAt, Instr.sureAddr, storeVar, sizeOf, typeInfo, hi, hsz, hx, hy, hv, hst]

theorem ext_setRow (w : World) (b : Nat) (cs : Array Value) : Ext (is b) w (w.setRow b cs) :=
  ⟨rfl, rfl, rfl, by simp, fun k _ hk => setRow_other w b k cs hk⟩

theorem BoxO.put {w : World} {b : Nat} {T : TypeId} {r s : Row} {a : r.den} {es : List Value} (hh : w.heap[b]? = some (.cells es.toArray T (0, 0))) (hr : Rep F w r es a) (hb : base ≤ b) (hn : ¬ F b) (hF : ∀ b, F b → b < w.heap.size) (p : Path r s) {vs : List Value} {u : s.den} (hv : Rep F w s vs u) :
    BoxO base F (w.setRow b (es.take p.off ++ vs ++ es.drop (p.off + s.size)).toArray) b T r (p.set a u) :=
  ⟨hb, hn, _, setRow_heap w b _ _ T (0, 0) hh, (hr.put p hv).step (Step.ext (ext_setRow w b _) hF fun k hk => by rw [show k = b from hk]; exact hn)⟩

/-- A field of a variable is stored. -/
theorem wpS_store_box {ti : TypeInfo} {b off : Nat} {T : TypeId} {r s : Row} {a : r.den} {v : Value} {vs : List Value} {u : s.den} (p : Path r s) (hi : P.info? t = some ti) (hs : ti.size = s.size) (hx : ev ρ x = .pointer (some ⟨b, off, none⟩)) (hoff : off = p.off) (hy : ev ρ y = v)
    (hv : v.cells.toList = vs) (hr : Rep F w s vs u) (hbox : BoxO base F w b T r a) (hF : ∀ b, F b → b < w.heap.size)
    (h : ∀ w', Ext (is b) w w' → BoxO base F w' b T r (p.set a u) → wpS P n ops K rest ρ w') : wpS P n ops K (⟨none, .store t x y, ty, pos, aft, none⟩ :: rest) ρ w := by
  subst hoff
  obtain ⟨hb, hn, es, hh, hrr⟩ := hbox
  have hle := p.le
  have hl := hr.length
  have hle2 := hrr.length
  refine wpS_unit _ (run_storeRow hi (by omega) hx hy hv hr.oneCell hh (by simp; omega)) (h _ (ext_setRow w b _) ?_)
  rw [hl]
  exact BoxO.put hh hrr hb hn hF p hr

/-! ### slices of the call's own -/

def mkL {α : Type} (m : Int) (z : α) : Option (List α) := if 0 ≤ m ∧ m ≤ 4294967296 then some (List.replicate m.toNat z) else none
def appA {α : Type} (l m : List α) : Option (List α) := if l.length + m.length ≤ 4294967296 then some (l ++ m) else none
def setI {α : Type} (l : List α) (i : Int) (y : α) : Option (List α) := if 0 ≤ i ∧ i < l.length then some (l.set i.toNat y) else none

theorem getElem_madeCells (z : Array Value) (m j : Nat) (hj : j < m) (hz : 0 < z.size) : (madeCells z m).toList[j]? = z[j % z.size]? := by
  have : j % z.size < z.size := Nat.mod_lt _ hz
  simp [madeCells, hj, this]

theorem made_seg (z : List Value) (m i : Nat) (hz : 0 < z.length) (hi : i < m) : (((madeCells z.toArray (m * z.length)).toList.drop (i * z.length)).take z.length) = z := by
  apply List.ext_getElem?
  intro j
  rw [List.getElem?_take, List.getElem?_drop]
  split
  · rename_i hj
    have hle : (i + 1) * z.length ≤ m * z.length := Nat.mul_le_mul_right _ hi
    rw [Nat.add_mul] at hle
    rw [getElem_madeCells z.toArray (m * z.length) (i * z.length + j) (by omega) (by simpa using hz)]
    rw [show z.toArray.size = z.length from by simp, List.getElem?_toArray]
    rw [Nat.add_comm, Nat.add_mul_mod_self_right, Nat.mod_eq_of_lt hj]
  · rename_i hj
    rw [List.getElem?_eq_none (by omega)]

/-- make([]T, m) -/
theorem wpS_make {e : TypeId} {ti : TypeInfo} {z : Value} {m : Int} (r : Row) {l : List r.den} {k k' : IntKind} (ht : P.underlying t = some (.slice e)) (hi : P.info? e = some ti) (hz : ti.zero = some z) (hzr : z.cells.toList = r.zeros) (hs : ti.size = r.size) (hby : ti.bytes ≤ 32768)
    (hx : ev ρ x = .int k m) (hy : ev ρ y = .int k' m) (hm : mkL m r.zero = some l) (hF : ∀ b, F b → b < w.heap.size) (hb : base ≤ w.heap.size) (hd : Nat.blt d n = true)
    (h : ∀ v w', St w F w' F → Own base F w' e r v l → (∀ k, mine v k → w.heap.size ≤ k) → wpS P n ops K rest (upd ρ d v) w') : wpS P n ops K (⟨some d, .makeSlice t x y, ty, pos, aft, none⟩ :: rest) ρ w := by
  unfold mkL at hm
  split at hm
  case isFalse => cases hm
  rename_i hr
  obtain rfl := Option.some.inj hm
  obtain ⟨c, rfl⟩ := Int.eq_ofNat_of_zero_le hr.1
  have hc : c ≤ 4294967296 := by omega
  have hbb : ti.bytes * c ≤ 281474976710656 := Nat.le_trans (Nat.mul_le_mul hby hc) (by omega)
  have hb' : (ti.bytes : Int) * (c : Int) ≤ 281474976710656 := by
    have h : ((ti.bytes * c : Nat) : Int) ≤ 281474976710656 := by omega
    rwa [Int.natCast_mul] at h
  have hrun := run_make (P := P) w t e ti z ht hi hz k k' c c (by omega) (by omega) hb' (by omega)
  have hzl : z.cells = r.zeros.toArray := by rw [← hzr, Array.toArray_toList]
  have hzn : r.zeros.length = r.size := (Rep.zero F w r).length
  have hpos := r.size_pos
  simp only [Int.toNat_natCast] at hrun
  refine wpS_eff (.slice (some ⟨w.heap.size, 0, none⟩) c c) (w.alloc (.cells (madeCells z.cells (c * ti.size)) e)) (by simp [execOp, hx, hy, hrun]) hd (h _ _ ((St.refl hF).alloc _) ⟨fun q hq => ?_, (madeCells z.cells (c * ti.size)).toList, ?_, ?_⟩ fun q hq => ?_)
  · simp only [mine, Value.ownBlock, Option.some.injEq] at hq
    intro e
    have := hF _ e
    omega
  · have := World.ownsRow_lit (base := base) (e := e) (size := r.size) w (madeCells z.cells (c * ti.size)) c hb (by simp [maxLen]; omega) (by rw [size_madeCells, hs])
    simpa using this
  · intro i hlt
    simp only [Int.toNat_natCast, List.length_replicate] at hlt
    rw [hs, hzl, ← hzn, made_seg _ _ _ (by omega) hlt]
    simpa using Rep.zero F _ r
  · simp only [mine, Value.ownBlock, Option.some.injEq] at hq
    omega

/-- The cells of what is read, in one list. -/
theorem Reads.news {r : Row} {A : Option Addr} {cap m : Nat} {l : List r.den} (h : Reads F w r (.slice A m cap) l) (b off : Nat) (hA : A = some ⟨b, off, none⟩) :
    ∃ news : List Value, news.length = l.length * r.size ∧ (∀ j u, news[j]? = some u → w.cell? ⟨b, off + j, none⟩ = some u) ∧ ∀ i (hi : i < l.length), Rep F w r ((news.drop (i * r.size)).take r.size) l[i] := by
  subst hA
  obtain ⟨A', cap', hv, _, _, h4⟩ := h
  simp only [Value.slice.injEq] at hv
  obtain ⟨rfl, _, _⟩ := hv
  have hpos := r.size_pos
  have hcell : ∀ j, j < l.length * r.size → ∃ u, w.cell? ⟨b, off + j, none⟩ = some u := by
    intro j hj
    have hi : j / r.size < l.length := Nat.div_lt_of_lt_mul (by rwa [Nat.mul_comm])
    obtain ⟨b', off', hb', es, hel, hc, _⟩ := h4 _ hi
    simp only [Option.some.injEq, Addr.mk.injEq, and_true] at hb'
    obtain ⟨rfl, rfl⟩ := hb'
    have hj2 : j % r.size < es.length := by rw [hel]; exact Nat.mod_lt _ hpos
    have := hc (j % r.size) _ (List.getElem?_eq_getElem hj2)
    rw [Nat.add_assoc, Nat.div_add_mod'] at this
    exact ⟨_, this⟩
  have hget : ∀ j u, ((List.range (l.length * r.size)).map fun j => (w.cell? ⟨b, off + j, none⟩).getD undef)[j]? = some u ↔ j < l.length * r.size ∧ w.cell? ⟨b, off + j, none⟩ = some u := by
    intro j u
    by_cases hj : j < l.length * r.size
    · obtain ⟨q, hq⟩ := hcell j hj
      simp [hj, hq]
    · simp [hj]
  refine ⟨(List.range (l.length * r.size)).map fun j => (w.cell? ⟨b, off + j, none⟩).getD undef, by simp, fun j u hu => ((hget j u).1 hu).2, fun i hi => ?_⟩
  obtain ⟨b', off', hb', es, hel, hc, hr⟩ := h4 i hi
  simp only [Option.some.injEq, Addr.mk.injEq, and_true] at hb'
  obtain ⟨rfl, rfl⟩ := hb'
  have he : (((List.range (l.length * r.size)).map fun j => (w.cell? ⟨b, off + j, none⟩).getD undef).drop (i * r.size)).take r.size = es := by
    have hle : (i + 1) * r.size ≤ l.length * r.size := Nat.mul_le_mul_right _ hi
    rw [Nat.add_mul] at hle
    apply List.ext_getElem?
    intro j
    rw [List.getElem?_take, List.getElem?_drop]
    split
    · rename_i hj
      rw [(hget (i * r.size + j) (es[j]'(by omega))).2 ⟨by omega, by rw [← Nat.add_assoc]; exact hc j _ (List.getElem?_eq_getElem (by omega))⟩, List.getElem?_eq_getElem (by omega)]
    · rw [List.getElem?_eq_none (by omega)]
  rw [he]
  exact hr

theorem run_append_of_nil (w : World) (base : Nat) (t ty e : TypeId) (i : TypeInfo) (size : Nat) (ht : P.underlying t = some (.slice e)) (hi : P.info? e = some i)
    (v : Value) (n : Nat) (xs : List Value) (hown : w.ownsRow base e size v n xs) (c : Nat) : (Builtin.append_ #[t, t] ty #[v, .slice none 0 c]).run P w = .ok v w := by
  rcases hown.2 with ⟨rfl, rfl⟩ | ⟨g, cap, cur, rfl, _, _, hnc, _⟩
  · simp [Builtin.append_, run_underlying ht, sizeOf, typeInfo, hi, Builtin.lenOf, Builtin.firstCells]
  · simp [Builtin.append_, run_underlying ht, sizeOf, typeInfo, hi, Builtin.lenOf, Builtin.firstCells, hnc, storeCells]

theorem Reads.same {r : Row} {v : Value} {l : List r.den} (h : Reads F w r v l) : Reads F w r v l := h

/-- append(v, m...) onto a slice of the call's own. -/
theorem run_append {e : TypeId} {ti : TypeInfo} {z : Value} {r : Row} {v u : Value} {l m out : List r.den} (ty : TypeId) (ht : P.underlying t = some (.slice e)) (hi : P.info? e = some ti) (hz : ti.zero = some z) (hzr : z.cells.toList = r.zeros) (hs : ti.size = r.size) (hby : ti.bytes ≤ 32768)
    (hv : Own base F w e r v l) (hu : Reads F w r u m) (hm : appA l m = some out) (hF : ∀ b, F b → b < w.heap.size) (hb : base ≤ w.heap.size) :
    ∃ v' w', (Builtin.append_ #[t, t] ty #[v, u]).run P w = .ok v' w' ∧ Ext (mine v) w w' ∧ Own base F w' e r v' out ∧ (mine v' = mine v ∨ mine v' = (w.heap.size = ·)) := by
  unfold appA at hm
  split at hm
  case isFalse => cases hm
  rename_i hlen
  obtain rfl := Option.some.inj hm
  have hzs : z.cells.size = r.size := by rw [← (Rep.zero F w r).length, ← hzr]; simp
  obtain ⟨hno, xs, hx, h3⟩ := hv
  have hu0 := hu
  obtain ⟨A, cap, rfl, hmc, hcm, hel⟩ := hu
  have hfin : ∀ (v' : Value) (w' : World) (news : List Value), news.length = m.length * r.size → (∀ i (hi : i < m.length), Rep F w r ((news.drop (i * r.size)).take r.size) m[i]) →
      w'.ownsRow base e r.size v' (l.length + m.length) (xs ++ news) → w.grownBy w' v.ownBlock → (v'.ownBlock = v.ownBlock ∨ v'.ownBlock = some w.heap.size) →
      Ext (mine v) w w' ∧ Own base F w' e r v' (l ++ m) ∧ (mine v' = mine v ∨ mine v' = (w.heap.size = ·)) := by
    intro v' _ news hnl hnr hown' hg hat
    have hm : mine v' = mine v ∨ mine v' = (w.heap.size = ·) := by
      rcases hat with h | h
      · exact .inl (by unfold mine; rw [h])
      · refine .inr ?_
        funext b
        unfold mine
        rw [h]
        simp
    have hext := Ext.of_grown hg (g := mine v) fun k hk => hk
    have hstep := Step.ext hext hF hno
    refine ⟨hext, ⟨fun k hk => ?_, xs ++ news, by simpa using hown', fun k hk => ?_⟩, hm⟩
    · rcases hm with h | h
      · rw [h] at hk; exact hno k hk
      · rw [h] at hk
        intro hf
        have := hF k hf
        omega
    · have hxl := hx.1
      rcases Nat.lt_or_ge k l.length with hlt | hge
      · have hle : (k + 1) * r.size ≤ l.length * r.size := Nat.mul_le_mul_right _ hlt
        rw [Nat.add_mul] at hle
        rw [List.getElem_append_left hlt, List.drop_append_of_le_length (by omega), List.take_append_of_le_length (by rw [List.length_drop]; omega)]
        exact (h3 k hlt).step hstep
      · have hk2 : k - l.length < m.length := by simp at hk; omega
        have hmul : k * r.size = l.length * r.size + (k - l.length) * r.size := by rw [← Nat.add_mul]; congr 1; omega
        rw [List.getElem_append_right hge, List.drop_append, hxl, List.drop_of_length_le (by omega), List.nil_append, show k * r.size - l.length * r.size = (k - l.length) * r.size from by omega]
        exact (hnr _ hk2).step hstep
  cases A with
  | none =>
    have hm0 : m = [] := by
      cases m with
      | nil => rfl
      | cons a q => obtain ⟨b, off, h, _⟩ := hel 0 (by simp); cases h
    subst hm0
    refine ⟨v, w, run_append_of_nil w base t ty e ti r.size ht hi v _ xs hx _, ?_⟩
    exact hfin v w [] (by simp) (fun i hi => absurd hi (by simp)) (by simpa using hx) ⟨rfl, rfl, rfl, Nat.le_refl _, fun _ _ _ => rfl⟩ (.inl rfl)
  | some ad =>
    have key : ∃ news : List Value, news.length = m.length * r.size ∧ (∀ j u, news[j]? = some u → w.cell? (ad.add j) = some u) ∧ ∀ i (hi : i < m.length), Rep F w r ((news.drop (i * r.size)).take r.size) m[i] := by
      cases m with
      | nil => exact ⟨[], by simp, fun j u h => by simp at h, fun i hi => absurd hi (by simp)⟩
      | cons a q =>
        obtain ⟨b, off, h, _⟩ := hel 0 (by simp)
        obtain ⟨news, h1, h2, h3⟩ := hu0.news b off h
        obtain rfl : ad = ⟨b, off, none⟩ := by simpa using h
        exact ⟨news, h1, fun j u hj => by rw [addr_add_none]; exact h2 j u hj, h3⟩
    obtain ⟨news, hnl, hnc, hnr⟩ := key
    have hone : ∀ u ∈ news, u.oneCell' = true := by
      intro u hu
      obtain ⟨j, hj, rfl⟩ := List.getElem_of_mem hu
      have hpos := r.size_pos
      have hi : j / r.size < m.length := Nat.div_lt_of_lt_mul (by rw [Nat.mul_comm, ← hnl]; exact hj)
      have hr := hnr _ hi
      refine hr.oneCell _ ?_
      have hle : (j / r.size) * r.size + j % r.size = j := Nat.div_add_mod' j r.size
      have hlt := Nat.mod_lt j hpos
      rw [List.mem_iff_getElem?]
      refine ⟨j % r.size, ?_⟩
      rw [List.getElem?_take, if_pos hlt, List.getElem?_drop, hle, List.getElem?_eq_getElem hj]
    obtain ⟨v', w', hrun, hown', hg, _, hat⟩ := run_append_own_at (P := P) w base t ty e ti z r.size ti.bytes ht hi hz hs rfl hzs r.size_pos v l.length xs hx ad m.length cap news hnl hnc hone (by simp only [maxLen]; omega)
      (Nat.le_trans (Nat.mul_le_mul hlen hby) (by omega)) hb
    exact ⟨v', w', hrun, hfin v' w' news hnl hnr hown' hg hat⟩

theorem wpS_append {e : TypeId} {ti : TypeInfo} {z : Value} {r : Row} {v u : Value} {l m out : List r.den} (ht : P.underlying t = some (.slice e)) (hi : P.info? e = some ti) (hz : ti.zero = some z) (hzr : z.cells.toList = r.zeros) (hs : ti.size = r.size) (hby : ti.bytes ≤ 32768)
    (hx : ev ρ x = v) (hy : ev ρ y = u) (hv : Own base F w e r v l) (hu : Reads F w r u m) (hm : appA l m = some out) (hF : ∀ b, F b → b < w.heap.size) (hb : base ≤ w.heap.size) (hd : Nat.blt d n = true)
    (h : ∀ v' w', Ext (mine v) w w' → Own base F w' e r v' out → (∀ k, mine v' k → mine v k ∨ w.heap.size ≤ k) → wpS P n ops K rest (upd ρ d v') w') :
    wpS P n ops K (⟨some d, .call { callee := .builtin .append, args := #[x, y], argTypes := #[t, t] }, ty, pos, aft, none⟩ :: rest) ρ w := by
  obtain ⟨v', w', hrun, he, ho, hm⟩ := run_append ty ht hi hz hzr hs hby hv hu hm hF hb
  refine wpS_eff v' w' ?_ hd (h v' w' he ho fun k hk => ?_)
  · simp [execOp, resolve, invoke, builtin, hx, hy, hrun]
  · rcases hm with h | h
    · exact .inl (h ▸ hk)
    · rw [h] at hk; exact .inr (by omega)

/-- []T{x}: the one element of an append. -/
theorem wpS_one {e : TypeId} {ti : TypeInfo} {z : Value} {r : Row} {v : Value} {es : List Value} {a : r.den} (ht : P.underlying t = some (.slice e)) (hi : P.info? e = some ti) (hz : ti.zero = some z) (hzr : z.cells.toList = r.zeros) (hs : ti.size = r.size) (hsm : r.size ≤ 16777216)
    (hx : ev ρ x = v) (hve : v.cells = es.toArray) (hr : Rep F w r es a) (hF : ∀ b, F b → b < w.heap.size) (hb : base ≤ w.heap.size) (hd : Nat.blt d n = true)
    (h : ∀ v' w', St w F w' F → Own base F w' e r v' [a] → (∀ k, mine v' k → w.heap.size ≤ k) → wpS P n ops K rest (upd ρ d v') w') :
    wpS P n ops K (⟨some d, .buildSlice t 1 #[(0, x)], ty, pos, aft, none⟩ :: rest) ρ w := by
  have hzs : z.cells.size = r.size := by rw [← (Rep.zero F w r).length, ← hzr]; simp
  have hl := hr.length
  have hpos := r.size_pos
  have hrun : (execOp (ev ρ) ⟨some d, .buildSlice t 1 #[(0, x)], ty, pos, aft, none⟩).run P w = .ok (.value (.slice (some ⟨w.heap.size, 0, none⟩) 1 1)) (w.alloc (.cells es.toArray e)) := by
    have hfold : ∀ (k : Nat) (cs : List Value) (pre post : List Value), post.length = cs.length → (cs.zipIdx k).foldl (fun (acc : Array Value) (cj : Value × Nat) => acc.setIfInBounds (0 + cj.2) cj.1) (pre ++ post).toArray = (pre ++ cs).toArray ∨ pre.length ≠ k := by
      intro k cs
      induction cs generalizing k with
      | nil => intro pre post hp; left; simp at hp; simp [hp]
      | cons c q ih =>
        intro pre post hp
        by_cases hk : pre.length = k
        · cases post with
          | nil => simp at hp
          | cons p0 post =>
            simp only [List.zipIdx_cons, List.foldl_cons]
            have := ih (k + 1) (pre ++ [c]) post (by simpa using hp)
            rcases this with h | h
            · left
              rw [show ((pre ++ p0 :: post).toArray.setIfInBounds (0 + k) c) = ((pre ++ [c]) ++ post).toArray from by
                subst hk
                simp]
              rw [h]
              simp
            · simp at h; omega
        · right; exact hk
    have hmk : ((Array.range r.size).map (z.cells[· % z.cells.size]!)).size = r.size := by simp
    have hf := hfold 0 es [] ((Array.range r.size).map (z.cells[· % z.cells.size]!)).toList (by simp [hl])
    rcases hf with hf | hf
    case inr => simp at hf
    simp only [List.nil_append, Array.toArray_toList] at hf
    have hne : ¬ r.size = 0 := by omega
    have hfl : Instr.fill (fun i => some (i * r.size, r.size)) ((Array.range r.size).map (z.cells[· % z.cells.size]!)) [(0, v)] = some es.toArray := by
      unfold Instr.fill
      simp only [hve, Nat.zero_mul, List.size_toArray, hl, hmk]
      have hzi : es.toArray.zipIdx.foldl (fun (acc : Array Value) (cj : Value × Nat) => acc.setIfInBounds (0 + cj.2) cj.1) ((Array.range r.size).map (z.cells[· % z.cells.size]!)) = es.toArray := by
        rw [← Array.foldl_toList, Array.toList_zipIdx]
        exact hf
      simp only [Instr.fill]
      simpa using hzi
    simp only [execOp, Instr.buildSlice, Sem.run_bind, run_underlying ht, Result.andThen_ok]
    simp [sizeOf, typeInfo, hi, hs, hne, zeroValue, hz, hx, newRow, hfl, show ¬ (16777216 < r.size) from by omega]
  refine wpS_eff _ _ hrun hd (h _ _ ((St.refl hF).alloc _) ⟨fun k hk => ?_, es, ?_, fun i hi => ?_⟩ fun k hk => ?_)
  · simp only [mine, Value.ownBlock, Option.some.injEq] at hk
    intro e
    have := hF _ e
    omega
  · have := World.ownsRow_lit (base := base) (e := e) (size := r.size) w es.toArray 1 hb (by simp [maxLen]) (by simp [hl])
    simpa using this
  · obtain rfl : i = 0 := by simpa using hi
    simp only [Nat.zero_mul, List.drop_zero]
    rw [← hl, List.take_length]
    simpa using hr.step (Step.alloc hF _)
  · simp only [mine, Value.ownBlock, Option.some.injEq] at hk
    omega

end
end Go.Proofs.Ytacochphlicngaa
