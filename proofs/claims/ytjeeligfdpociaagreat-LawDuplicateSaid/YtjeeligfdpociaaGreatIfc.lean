/- Values of interfaces: made, asserted, their methods called. -/
import Derived.Test.YtjeeligfdpociaaGreatCall2
namespace Go.Proofs.YtjeeligfdpociaaGreat
open Go Go.RowKit

section
variable {P : Program} {ρ : Nat → Value} {w w' : World} {H H' : Hist} {F F' : Nat → Prop} {U : Nat → Prop} {ob : Nat → Option (Nat × Th)} {n : Nat} {R : Type}
variable {op : Op} {ty : TypeId} {pos : String} {aft : Array Edge} {d : Nat} {dst : Option Nat}

def TyK.solid : TyK → Bool
  | .other => false
  | _ => true
theorem TyKOK.solid {t : TypeId} {k : TyK} (h : TyKOK P t k) (hk : k.solid = true) : ∃ D, P.underlying t = some D ∧ ∀ ms, D ≠ .interface ms := by
  cases k with
  | other => cases hk
  | struct fs => obtain ⟨arr, h, _⟩ := h; exact ⟨_, h, fun _ e => by cases e⟩
  | _ => exact ⟨_, h, fun _ e => by cases e⟩

/-! ## Made -/
def solidT (T : Tabs P) (t : TypeId) : Bool := match find T.und t with
  | some k => k.solid
  | none => false
theorem solidT_ok (T : Tabs P) {t : TypeId} (h : solidT T t = true) : ∃ D, P.underlying t = some D ∧ ∀ ms, D ≠ .interface ms := by
  unfold solidT at h
  split at h
  · rename_i k hk
    exact (T.und_ok _ _ hk).solid h
  · cases h
def eIfc (T : Tabs P) (t : TypeId) (D : Desc) (k : Eff → Option R) : Option R := bif solidT T t then k { dst := .ifc t D } else none
theorem eIfc_ok (T : Tabs P) {t : TypeId} {D : Desc} {x : Operand} {k : Eff → Option R} {q : R} (h : eIfc T t D k = some q) (hs : ObSat U H F w ob n) (hx : DescOK H F w D (ev ρ x)) :
    ∃ e, k e = some q ∧ Says P U H F w ρ ob n ⟨some d, .makeInterface t x, ty, pos, aft, none⟩ e := by
  unfold eIfc at h
  obtain ⟨h1, h2⟩ := bif_eq h
  obtain ⟨D0, hD, hn⟩ := solidT_ok T h1
  refine ⟨_, h2, says_pure hs (v := .iface t (ev ρ x)) ?_ ⟨_, rfl, hx⟩⟩
  cases D0 with
  | interface ms => exact absurd rfl (hn ms)
  | _ => simp [execOp, Instr.makeInterface, run_underlying hD, Result.andThen]

/-! ## Asserted -/
def eAssert (T : Tabs P) (t : TypeId) (ok : Bool) (D : Desc) (k : Eff → Option R) : Option R :=
  match D with
  | .ifc t' d => bif Nat.beq t' t && solidT T t then (match ok, d with
    | true, .val agg tr => k { dst := .tup [(agg, tr), (false, .leaf .bool true)] }
    | true, _ => none
    | false, d => k { dst := d }) else none
  | _ => none
theorem eAssert_ok (T : Tabs P) {xt t : TypeId} {ok : Bool} {D : Desc} {x : Operand} {k : Eff → Option R} {q : R} (h : eAssert T t ok D k = some q) (hs : ObSat U H F w ob n) (hx : DescOK H F w D (ev ρ x)) :
    ∃ e, k e = some q ∧ Says P U H F w ρ ob n ⟨some d, .typeAssert x xt t ok, ty, pos, aft, none⟩ e := by
  unfold eAssert at h
  split at h
  case h_2 => cases h
  rename_i t' dd
  obtain ⟨h1, h2⟩ := bif_eq h
  obtain ⟨h1, h3⟩ := and2 h1
  obtain rfl := beq_true h1
  obtain ⟨D0, hD, hn⟩ := solidT_ok T h3
  obtain ⟨u, hu, hd⟩ := hx
  have hrun : (Instr.typeAssert (ev ρ x) xt t' ok).run P w = .ok (if ok then .tuple #[u, .bool true] else u) w := by
    rw [hu]
    cases D0 with
    | interface ms => exact absurd rfl (hn ms)
    | _ => simp [Instr.typeAssert, run_underlying hD, Result.andThen]
  split at h2
  · exact ⟨_, h2, says_pure hs (v := .tuple #[u, .bool true]) (by simp [execOp, hrun, Result.andThen]) ⟨[u, .bool true], rfl, _, _, rfl, hd, _, _, rfl, ValOK.mkBool .., rfl⟩⟩
  · cases h2
  · exact ⟨_, h2, says_pure hs (v := u) (by simp [execOp, hrun, Result.andThen]) hd⟩

/-! ## Methods -/
def mthAt : List (TypeId × (String × (FuncId × Bool))) → TypeId → String → Option (FuncId × Bool)
  | [], _, _ => none
  | (t', (nm, p)) :: l, t, name => bif Nat.beq t' t && (nm == name) then some p else mthAt l t name
theorem mthAt_ok {t : TypeId} {name : String} {f : FuncId} {pr : Bool} : {l : List (TypeId × (String × (FuncId × Bool)))} → mthAt l t name = some (f, pr) → (t, (name, (f, pr))) ∈ l
  | [], h => by cases h
  | (t', (nm, p)) :: l, h => by
    unfold mthAt at h
    cases hb : Nat.beq t' t && (nm == name) with
    | true =>
      rw [hb, cond_true] at h
      obtain ⟨h1, h2⟩ := and2 hb
      obtain rfl := beq_true h1
      obtain rfl : nm = name := by simpa using h2
      cases h
      simp
    | false =>
      rw [hb, cond_false] at h
      exact List.mem_cons_of_mem _ (mthAt_ok h)

theorem run_method {t : TypeId} {name : String} {f : FuncId} {pr : Bool} {v u : Value} {fuel : Nat} (h : MthOK P t name f pr) (hr : ∀ nm, (receiverAt t (.val v) pr (some nm)).run P w = .ok u w) : (method (fuel + 1) t v name).run P w = .ok (f, u) w := by
  unfold MthOK at h
  cases hi : P.info? t with
  | none => rw [hi] at h; cases h
  | some ti =>
    rw [hi] at h
    have h : (ti.methods.find? fun m => m.name == name).map (fun m => (m.path.toList.length, m.func)) = some (0, some (f, pr)) := h
    cases hm : ti.methods.find? fun m => m.name == name with
    | none => rw [hm] at h; cases h
    | some m =>
      rw [hm] at h
      simp only [Option.map_some, Option.some.injEq, Prod.mk.injEq] at h
      have hp : m.path = #[] := by
        have := h.1
        simpa using this
      simp [method, typeInfo, hi, hm, hp, follow, h.2, hr, Result.andThen, Sem.run_bind]

/-- The receiver: the pointer itself; what lies there. -/
theorem run_recvP {t e : TypeId} {nm : String} {v : Value} (hu : P.underlying t = some (.pointer e)) : (receiverAt t (.val v) true (some nm)).run P w = .ok v w := by
  simp [receiverAt, run_underlying hu, Place.get, Result.andThen, Sem.run_bind]
theorem run_recvV {t e : TypeId} {nm : String} {a : Addr} {u : Value} (hu : P.underlying t = some (.pointer e)) (hl : (loadVar e a).run P w = .ok u w) : (receiverAt t (.val (.pointer (some a))) false (some nm)).run P w = .ok u w := by
  have hw : Builtin.ssaWrapNilChk_ #[t] t #[.pointer (some a), strVal "", strVal nm] = pure (.pointer (some a)) := rfl
  simp [receiverAt, run_underlying hu, Place.get, hw, asAddr, hl, Result.andThen, Sem.run_bind]

theorem run_invoke {t : TypeId} {name : String} {f : FuncId} {fn : Func} {pr : Bool} {v u : Value} {x : Operand} {args : Array Operand} {tys : Array TypeId} (h : MthOK P t name f pr) (hx : ev ρ x = .iface t v) (hr : ∀ nm, (receiverAt t (.val v) pr (some nm)).run P w = .ok u w)
    (hf : P.funcs[f]? = some fn) (hn : (fn.name == "runtime.NumGoroutine") = false) (hb : fn.body.isNone = false) :
    (execOp (ev ρ) ⟨dst, .call { callee := .invoke x name, args := args, argTypes := tys }, ty, pos, aft, none⟩).run P w = .ok (.enter f (u :: args.toList.map (ev ρ)).toArray) w := by
  have hn' : ¬ fn.name = "runtime.NumGoroutine" := by simpa using hn
  have hb' : ¬ fn.body = none := by
    intro e
    rw [e] at hb
    cases hb
  have hm := run_method (fuel := P.types.size + 99) h hr
  have hfu : P.types.size + 100 = P.types.size + 99 + 1 := rfl
  have e1 : (#[Value.iface t v] ++ Array.map (ev ρ) args).extract 1 (1 + args.size) = Array.map (ev ρ) args := by
    apply Array.ext'
    simp
    exact List.take_of_length_le (by simp)
  have e0 : (#[Value.iface t v] ++ Array.map (ev ρ) args)[0]? = some (Value.iface t v) := by simp [Array.getElem?_append]
  have e2 : (#[u] ++ Array.map (ev ρ) args) = (u :: args.toList.map (ev ρ)).toArray := by apply Array.ext'; simp
  simp [execOp, resolve, hx, invoke, callMethod, hfu, hm, callFunc, hf, hn', hb', go_sem, e0, e1, e2]

/-- What a pointer to a variable reads. -/
def ptrLoad (T : Tabs P) (ob : Nat → Option (Nat × Th)) (e : TypeId) (D : Desc) : Option Desc :=
  match find T.und e with
  | none => none
  | some kk => match D with
    | .ptr o p off => match ob o with
      | some (_, .box _ tr) => match tr.get p with
        | some (s, off') => bif Nat.beq off' off && sizeOK T e kk s.size then some (.val (aggK kk) s) else none
        | none => none
      | _ => none
    | _ => none
theorem ptrLoad_ok (T : Tabs P) {e : TypeId} {D D' : Desc} {v : Value} (h : ptrLoad T ob e D = some D') (hs : ObSat U H F w ob n) (hx : DescOK H F w D v) : ∃ a u, v = .pointer (some a) ∧ (loadVar e a).run P w = .ok u w ∧ DescOK H F w D' u := by
  unfold ptrLoad at h
  split at h
  · cases h
  rename_i kk hu
  split at h
  case h_2 => cases h
  rename_i o p off
  split at h
  case h_2 => cases h
  rename_i st0 T0 tr hob
  split at h
  case h_2 => cases h
  rename_i s off' hg
  obtain ⟨h1, h2⟩ := bif_eq h
  cases h2
  obtain ⟨h1, h3⟩ := and2 h1
  obtain rfl := beq_true h1
  obtain ⟨b, hb, rfl⟩ := hx
  obtain ⟨es, hh, hho⟩ := hs.box hob hb
  obtain ⟨g1, g2⟩ := hho.get hg
  have hc : ∀ j u, ((es.drop off').take s.size)[j]? = some u → w.cell? ⟨b, off' + j, none⟩ = some u := fun j u hj => by
    rw [cells_at hh]
    rw [List.getElem?_take] at hj
    split at hj
    · rwa [List.getElem?_drop] at hj
    · cases hj
  obtain ⟨dd, hd1, hd2⟩ := (T.und_ok _ _ hu).agg
  have hz := sizeOK_ok T h3
  have hl := g1.length
  generalize (es.drop off').take s.size = cs at g1 hc hl
  cases ha : aggK kk with
  | true =>
    rw [if_pos ha] at hz
    obtain ⟨r, hr, hrs⟩ := hz
    obtain ⟨ti, z, h1, _, _, h4, _⟩ := T.row_ok _ _ hr
    have hlc : (loadCells ⟨b, off', none⟩ cs.length).run P w = .ok cs.toArray w := run_loadCells_list (P := P) w ⟨b, off', none⟩ cs (fun j v hv => by rw [addr_add_none]; exact hc j v hv)
    have hsz : ti.size = cs.length := by omega
    exact ⟨_, .agg cs.toArray, rfl, by simp [loadVar, Sem.run_bind, run_isAgg hd1, hd2, ha, sizeOf, typeInfo, h1, hsz, hlc], ⟨cs, g1, rfl, by simp⟩⟩
  | false =>
    rw [if_neg (by simp [ha])] at hz
    obtain ⟨v, rfl⟩ : ∃ v, cs = [v] := by
      match cs, hl.trans hz with
      | [v], _ => exact ⟨v, rfl⟩
    have hcv : w.cell? ⟨b, off', none⟩ = some v := hc 0 v rfl
    exact ⟨_, v, rfl, by simp [loadVar, Sem.run_bind, run_isAgg hd1, hd2, ha, hcv, go_sem], ⟨[v], g1, rfl, fun _ => rfl⟩⟩

def eInvoke (T : Tabs P) (tab : List (Nat × Sig)) (rd : Operand → Option Desc) (objs : List (Nat × (Nat × Th))) (n : Nat) (x : Operand) (name : String) (args : List Operand) (k : Eff → Option R) : Option R :=
  match rd x with
  | some (.ifc t d) => match mthAt T.mth t name with
    | some (f, pr) => match find T.und t with
      | some (.ptr e) => match (bif pr then some d else ptrLoad T (find objs) e d) with
        | some d' => match descs rd args with
          | some ds => eCallD objs n f (d' :: ds) k tab
          | none => none
        | none => none
      | _ => none
    | none => none
  | _ => none
theorem eInvoke_ok (T : Tabs P) {tab : List (Nat × Sig)} (htab : ∀ p ∈ tab, FnOK P p.1 p.2) {rd : Operand → Option Desc} (hrd : ∀ x d, rd x = some d → DescOK H F w d (ev ρ x)) {objs : List (Nat × (Nat × Th))} {x : Operand} {name : String} {args : Array Operand} {tys : Array TypeId} {k : Eff → Option R} {q : R}
    (h : eInvoke T tab rd objs n x name args.toList k = some q) (hs : ObSat U H F w (find objs) n) :
    ∃ e, k e = some q ∧ Says P U H F w ρ (find objs) n ⟨dst, .call { callee := .invoke x name, args := args, argTypes := tys }, ty, pos, aft, none⟩ e := by
  unfold eInvoke at h
  split at h
  case h_2 => cases h
  rename_i t d0 hx
  split at h
  case h_2 => cases h
  rename_i f pr hm
  split at h
  case h_2 => cases h
  rename_i e hu
  split at h
  case h_2 => cases h
  rename_i d' hd'
  split at h
  case h_2 => cases h
  rename_i ds hds
  obtain ⟨v, hv, hdv⟩ := hrd _ _ hx
  have hM := T.mth_ok _ (mthAt_ok hm)
  have hu := T.und_ok _ _ hu
  have hdo := descs_ok (w := w) (H := H) (F := F) (ρ := ρ) hrd hds
  cases pr with
  | true =>
    cases hd'
    have hdd : DescsOK H F w (d0 :: ds) (v :: args.toList.map (ev ρ)) := ⟨v, _, rfl, hdv, hdo⟩
    exact eCallD_ok htab hdd (fun fn g1 g2 g3 => run_invoke hM hv (fun nm => run_recvP hu) g1 g2 g3) hs (fun _ h => h) h
  | false =>
    obtain ⟨a, u, rfl, hl, hdu⟩ := ptrLoad_ok T (show ptrLoad T (find objs) e d0 = some d' from hd') hs hdv
    have hdd : DescsOK H F w (d' :: ds) (u :: args.toList.map (ev ρ)) := ⟨u, _, rfl, hdu, hdo⟩
    exact eCallD_ok htab hdd (fun fn g1 g2 g3 => run_invoke hM hv (fun nm => run_recvV hu hl) g1 g2 g3) hs (fun _ h => h) h
end
end Go.Proofs.YtjeeligfdpociaaGreat
