/- Memory in the walks: elements, fields, variables, slices of the call's own. -/
import Derived.Test.YtjeeligfdpociaaGreatOps
namespace Go.Proofs.YtjeeligfdpociaaGreat
open Go Go.RowKit

/-! ## Paths into rows -/

inductive Path : Row → Row → Type where
  | here {r : Row} : Path r r
  | fst {a b s : Row} (p : Path a s) : Path (.pair a b) s
  | snd {a b s : Row} (p : Path b s) : Path (.pair a b) s

def Path.off : {r s : Row} → Path r s → Nat
  | _, _, .here => 0
  | _, _, .fst p => p.off
  | _, _, .snd (a := a) p => a.size + p.off

@[reducible] def Path.get : {r s : Row} → Path r s → r.den → s.den
  | _, _, .here, x => x
  | _, _, .fst p, x => p.get x.1
  | _, _, .snd p, x => p.get x.2

@[reducible] def Path.set : {r s : Row} → Path r s → r.den → s.den → r.den
  | _, _, .here, _, y => y
  | _, _, .fst p, x, y => (p.set x.1 y, x.2)
  | _, _, .snd p, x, y => (x.1, p.set x.2 y)

section
variable {F : Nat → Prop} {w : World}

theorem Path.le : {r s : Row} → (p : Path r s) → p.off + s.size ≤ r.size
  | _, _, .here => by simp [Path.off]
  | _, _, .fst p => by have := p.le; simp [Path.off]; omega
  | _, _, .snd p => by have := p.le; simp [Path.off]; omega

/-- A part of a row. -/
theorem Rep.path : {r s : Row} → (p : Path r s) → {es : List Value} → {x : r.den} → Rep F w r es x → Rep F w s ((es.drop p.off).take s.size) (p.get x)
  | _, _, .here, es, x, h => by
    have := h.length
    simp only [Path.off, List.drop_zero, Path.get]
    rw [← this, List.take_length]
    exact h
  | _, s, .fst (a := a) p, _, x, h => by
    obtain ⟨c1, c2, rfl, h1, h2⟩ := h
    have hr := Rep.path p h1
    have hle := p.le
    have hl := h1.length
    simp only [Path.off, Path.get]
    rw [List.drop_append_of_le_length (by omega), List.take_append_of_le_length (by rw [List.length_drop]; omega)]
    exact hr
  | _, s, .snd (a := a) p, _, x, h => by
    obtain ⟨c1, c2, rfl, h1, h2⟩ := h
    have hr := Rep.path p h2
    have hl := h1.length
    simp only [Path.off, Path.get]
    rw [← hl, List.drop_append, List.drop_of_length_le (by omega), List.nil_append, show c1.length + p.off - c1.length = p.off from by omega]
    exact hr

/-- A part of a row, stored anew. -/
theorem Rep.put : {r s : Row} → (p : Path r s) → {es vs : List Value} → {x : r.den} → {y : s.den} → Rep F w r es x → Rep F w s vs y →
    Rep F w r (es.take p.off ++ vs ++ es.drop (p.off + s.size)) (p.set x y)
  | _, _, .here, es, vs, x, y, h, hv => by
    have := h.length
    simp only [Path.off, Path.set, List.take_zero, List.nil_append, Nat.zero_add]
    rw [← this, List.drop_length, List.append_nil]
    exact hv
  | _, s, .fst (a := a) p, _, vs, x, y, h, hv => by
    obtain ⟨c1, c2, rfl, h1, h2⟩ := h
    have hr := Rep.put p h1 hv
    have hle := p.le
    have hl := h1.length
    refine ⟨_, c2, ?_, hr, h2⟩
    simp only [Path.off]
    rw [List.take_append_of_le_length (by omega), List.drop_append_of_le_length (by omega)]
    simp [List.append_assoc]
  | _, s, .snd (a := a) p, _, vs, x, y, h, hv => by
    obtain ⟨c1, c2, rfl, h1, h2⟩ := h
    have hr := Rep.put p h2 hv
    have hl := h1.length
    refine ⟨c1, _, ?_, h1, hr⟩
    simp only [Path.off]
    rw [← hl, List.take_append, List.take_of_length_le (by omega), List.drop_append, List.drop_of_length_le (by omega), show c1.length + p.off - c1.length = p.off from by omega,
      show c1.length + p.off + s.size - c1.length = p.off + s.size from by omega]
    simp [List.append_assoc]

theorem At.path {r s : Row} {b off : Nat} {x : r.den} (h : At F w r b off x) (p : Path r s) (k : Nat) (hk : p.off = k) : At F w s b (off + k) (p.get x) := by
  subst hk
  obtain ⟨es, hl, hc, hr⟩ := h
  have hp := hr.path p
  refine ⟨_, hp.length, fun j u hu => ?_, hp⟩
  rw [List.getElem?_take] at hu
  split at hu
  · rw [List.getElem?_drop] at hu
    rw [Nat.add_assoc]
    exact hc _ u hu
  · cases hu

theorem At.int {k : IntKind} {b off : Nat} {x : Int} (h : At F w (.int k) b off x) : w.cell? ⟨b, off, none⟩ = some (.int k x) := by
  obtain ⟨es, hl, hc, rfl⟩ := h
  exact hc 0 _ rfl
theorem At.bool {b off : Nat} {x : Bool} (h : At F w .bool b off x) : w.cell? ⟨b, off, none⟩ = some (.bool x) := by
  obtain ⟨es, hl, hc, rfl⟩ := h
  exact hc 0 _ rfl
theorem At.str {b off : Nat} {x : ByteArray} (h : At F w .str b off x) : w.cell? ⟨b, off, none⟩ = some (.string x) := by
  obtain ⟨es, hl, hc, rfl⟩ := h
  exact hc 0 _ rfl
theorem At.slice {e : Row} {b off : Nat} {x : List e.den} (h : At F w (.slice e) b off x) : ∃ v, w.cell? ⟨b, off, none⟩ = some v ∧ Rep F w (.slice e) [v] x := by
  obtain ⟨es, hl, hc, hr⟩ := h
  obtain ⟨A, cap, rfl, h⟩ := hr
  exact ⟨_, hc 0 _ rfl, A, cap, rfl, h⟩
theorem At.rep {r : Row} {b off : Nat} {x : r.den} (h : At F w r b off x) : ∃ es, (∀ j u, es[j]? = some u → w.cell? ⟨b, off + j, none⟩ = some u) ∧ Rep F w r es x := by
  obtain ⟨es, hl, hc, hr⟩ := h
  exact ⟨es, hc, hr⟩

/-! ## Slices that are read -/

/-- The value v is a slice that reads as l, wherever it lies. -/
def Reads (F : Nat → Prop) (w : World) (r : Row) (v : Value) (l : List r.den) : Prop :=
  ∃ A cap, v = .slice A l.length cap ∧ l.length ≤ cap ∧ cap ≤ maxLen ∧ ∀ i (h : i < l.length), ∃ b off, A = some ⟨b, off, none⟩ ∧ At F w r b (off + i * r.size) l[i]

theorem Rep.reads {r : Row} {v : Value} {l : List r.den} (h : Rep F w (.slice r) [v] l) : Reads F w r v l := by
  obtain ⟨A, cap, h1, h2, h3, h4⟩ := h
  refine ⟨A, cap, by simpa using h1, h2, h3, fun i hi => ?_⟩
  obtain ⟨b, off, es, hA, _, hel, hc, hr⟩ := h4 i hi
  exact ⟨b, off, hA, es, hel, hc, hr⟩

/-- The model of an index. -/
def idx {α : Type} (l : List α) (i : Int) : Option α := if 0 ≤ i then l[i.toNat]? else none

theorem idx_some {α : Type} {l : List α} {i : Int} {y : α} (h : idx l i = some y) : ∃ k : Nat, i = k ∧ ∃ hk : k < l.length, l[k] = y := by
  unfold idx at h
  split at h
  · rename_i h0
    obtain ⟨hk, e⟩ := List.getElem?_eq_some_iff.1 h
    exact ⟨i.toNat, by omega, hk, e⟩
  · cases h

theorem Reads.elem {r : Row} {v : Value} {l : List r.den} (h : Reads F w r v l) {i : Int} {y : r.den} (hi : idx l i = some y) :
    ∃ b off cap k, v = .slice (some ⟨b, off, none⟩) l.length cap ∧ i = (k : Nat) ∧ k < l.length ∧ At F w r b (off + k * r.size) y := by
  obtain ⟨A, cap, hv, _, _, h4⟩ := h
  obtain ⟨k, hk, hlt, rfl⟩ := idx_some hi
  obtain ⟨b, off, rfl, hat⟩ := h4 k hlt
  exact ⟨b, off, cap, k, hv, hk, hlt, hat⟩

end

/-! ## The rules -/
section
variable {P : Program} {n : Nat} {ops : Array Oper} {K : (Nat → Value) → World → Prop} {rest : List Oper} {ρ : Nat → Value} {w : World} {F : Nat → Prop}
variable {d : Nat} {ty : TypeId} {pos : String} {aft : Array Edge} {x y : Operand} {t : TypeId}

def aggD : TypeDesc → Bool
  | .struct _ | .array _ _ => true
  | _ => false

theorem run_isAgg {D : TypeDesc} (hu : P.underlying t = some D) (w : World) : (isAgg t).run P w = .ok (aggD D) w := by
  unfold isAgg
  rw [Sem.run_bind, run_underlying hu w]
  cases D <;> simp [aggD]

theorem run_load1 {dd : Option Nat} {D : TypeDesc} {b off : Nat} {v : Value} (hu : P.underlying t = some D) (hD : aggD D = false) (hx : ev ρ x = .pointer (some ⟨b, off, none⟩)) (hc : w.cell? ⟨b, off, none⟩ = some v) :
    (execOp (ev ρ) ⟨dd, .load t x, ty, pos, aft, none⟩).run P w = .ok (.value v) w := by
  simp [execOp, hx, Instr.loadAt, Instr.sureAddr, loadVar, Sem.run_bind, run_isAgg hu, hD, hc, go_sem]

theorem run_loadA {dd : Option Nat} {D : TypeDesc} {ti : TypeInfo} {b off : Nat} {es : List Value} (hu : P.underlying t = some D) (hD : aggD D = true) (hi : P.info? t = some ti) (hs : ti.size = es.length)
    (hx : ev ρ x = .pointer (some ⟨b, off, none⟩)) (hc : ∀ j u, es[j]? = some u → w.cell? ⟨b, off + j, none⟩ = some u) :
    (execOp (ev ρ) ⟨dd, .load t x, ty, pos, aft, none⟩).run P w = .ok (.value (.agg es.toArray)) w := by
  have hl : (loadCells ⟨b, off, none⟩ es.length).run P w = .ok es.toArray w :=
    run_loadCells_list (P := P) w ⟨b, off, none⟩ es (fun j v hv => by rw [addr_add_none]; exact hc j v hv)
  simp [execOp, hx, Instr.loadAt, Instr.sureAddr, loadVar, Sem.run_bind, run_isAgg hu, hD, sizeOf, typeInfo, hi, hs, hl]

theorem wpS_load_int {D : TypeDesc} {b off : Nat} {k : IntKind} {a : Int} (hu : P.underlying t = some D) (hD : aggD D = false) (hx : ev ρ x = .pointer (some ⟨b, off, none⟩)) (hat : At F w (.int k) b off a) (hd : Nat.blt d n = true)
    (h : wpS P n ops K rest (upd ρ d (.int k a)) w) : wpS P n ops K (⟨some d, .load t x, ty, pos, aft, none⟩ :: rest) ρ w :=
  wpS_eff _ _ (run_load1 hu hD hx hat.int) hd h
theorem wpS_load_bool {D : TypeDesc} {b off : Nat} {a : Bool} (hu : P.underlying t = some D) (hD : aggD D = false) (hx : ev ρ x = .pointer (some ⟨b, off, none⟩)) (hat : At F w .bool b off a) (hd : Nat.blt d n = true)
    (h : wpS P n ops K rest (upd ρ d (.bool a)) w) : wpS P n ops K (⟨some d, .load t x, ty, pos, aft, none⟩ :: rest) ρ w :=
  wpS_eff _ _ (run_load1 hu hD hx hat.bool) hd h
theorem wpS_load_str {D : TypeDesc} {b off : Nat} {a : ByteArray} (hu : P.underlying t = some D) (hD : aggD D = false) (hx : ev ρ x = .pointer (some ⟨b, off, none⟩)) (hat : At F w .str b off a) (hd : Nat.blt d n = true)
    (h : wpS P n ops K rest (upd ρ d (.string a)) w) : wpS P n ops K (⟨some d, .load t x, ty, pos, aft, none⟩ :: rest) ρ w :=
  wpS_eff _ _ (run_load1 hu hD hx hat.str) hd h
theorem wpS_load_slice {D : TypeDesc} {b off : Nat} {e : Row} {l : List e.den} (hu : P.underlying t = some D) (hD : aggD D = false) (hx : ev ρ x = .pointer (some ⟨b, off, none⟩)) (hat : At F w (.slice e) b off l) (hd : Nat.blt d n = true)
    (h : ∀ v, Rep F w (.slice e) [v] l → wpS P n ops K rest (upd ρ d v) w) : wpS P n ops K (⟨some d, .load t x, ty, pos, aft, none⟩ :: rest) ρ w := by
  obtain ⟨v, hc, hr⟩ := hat.slice
  exact wpS_eff _ _ (run_load1 hu hD hx hc) hd (h v hr)
theorem wpS_load_row {D : TypeDesc} {ti : TypeInfo} {b off : Nat} {r : Row} {a : r.den} (hu : P.underlying t = some D) (hD : aggD D = true) (hi : P.info? t = some ti) (hs : ti.size = r.size)
    (hx : ev ρ x = .pointer (some ⟨b, off, none⟩)) (hat : At F w r b off a) (hd : Nat.blt d n = true)
    (h : ∀ es, Rep F w r es a → wpS P n ops K rest (upd ρ d (.agg es.toArray)) w) : wpS P n ops K (⟨some d, .load t x, ty, pos, aft, none⟩ :: rest) ρ w := by
  obtain ⟨es, hc, hr⟩ := hat.rep
  exact wpS_eff _ _ (run_loadA hu hD hi (hs.trans hr.length.symm) hx hc) hd (h es hr)

/-- x[i] on a slice that is read. -/
theorem wpS_index {e : TypeId} {ti : TypeInfo} {r : Row} {k : IntKind} {i : Int} {v : Value} {l : List r.den} {a : r.den} (ht : P.underlying t = some (.slice e)) (hi : P.info? e = some ti) (hs : ti.size = r.size)
    (hx : ev ρ x = v) (hy : ev ρ y = .int k i) (hv : Reads F w r v l) (hidx : idx l i = some a) (hd : Nat.blt d n = true)
    (h : ∀ b off, At F w r b off a → wpS P n ops K rest (upd ρ d (.pointer (some ⟨b, off, none⟩))) w) : wpS P n ops K (⟨some d, .indexAddr t x y, ty, pos, aft, none⟩ :: rest) ρ w := by
  obtain ⟨b, off, cap, j, rfl, hj, hlt, hat⟩ := hv.elem hidx
  exact wpS_pure _ (pure_indexAddr r.size ht hi hs hx hy hj hlt) hd (h b _ hat)

theorem wpS_len {e : TypeId} {r : Row} {v : Value} {l : List r.den} (ht : P.underlying t = some (.slice e)) (hx : ev ρ x = v) (hv : Reads F w r v l) (hd : Nat.blt d n = true)
    (h : wpS P n ops K rest (upd ρ d (.int .i64 (l.length : Int))) w) : wpS P n ops K (⟨some d, .call { callee := .builtin .len, args := #[x], argTypes := #[t] }, ty, pos, aft, none⟩ :: rest) ρ w := by
  obtain ⟨A, cap, rfl, _⟩ := hv
  exact wpS_pure _ (pure_len rfl ht hx) hd h

/-! ## Calls -/
theorem run_call {dd : Option Nat} {f : FuncId} {fn : Func} {xs : List Operand} {vs : List Value} {tys : Array TypeId} (hf : P.funcs[f]? = some fn) (hn : (fn.name == "runtime.NumGoroutine") = false) (hb : fn.body.isNone = false) (hxs : xs.map (ev ρ) = vs) :
    (execOp (ev ρ) ⟨dd, .call { callee := .value (.func f), args := xs.toArray, argTypes := tys }, ty, pos, aft, none⟩).run P w = .ok (.enter f vs.toArray) w := by
  subst hxs
  have hn' : ¬ fn.name = "runtime.NumGoroutine" := by simpa using hn
  have hb' : ¬ fn.body = none := by
    intro e
    rw [e] at hb
    cases hb
  simp [execOp, resolve, ev, Deferred.ofValue, invoke, callFunc, hf, hn', hb', go_sem]

theorem wpS_call {f : FuncId} {fn : Func} {xs : List Operand} {vs : List Value} {tys : Array TypeId} {R : Value → World → Prop} (hf : P.funcs[f]? = some fn) (hn : (fn.name == "runtime.NumGoroutine") = false) (hb : fn.body.isNone = false) (hxs : xs.map (ev ρ) = vs)
    (hc : Calls P f vs.toArray w fun e w' => ∃ v, e = .returned v ∧ R v w') (hd : Nat.blt d n = true) (h : ∀ v w', R v w' → wpS P n ops K rest (upd ρ d v) w') :
    wpS P n ops K (⟨some d, .call { callee := .value (.func f), args := xs.toArray, argTypes := tys }, ty, pos, aft, none⟩ :: rest) ρ w :=
  fun Q a hfr hk => wpList_plain rfl fun K' hK => by
    unfold Oper.wp
    rw [hfr.eval, run_call hf hn hb hxs]
    exact hc.mono fun e w' ⟨v, he, hr⟩ => by
      subst he
      exact hK _ _ (h v w' hr Q _ (hfr.put hd v) hk)
end
end Go.Proofs.YtjeeligfdpociaaGreat
