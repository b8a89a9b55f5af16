/- One operation: what it comes to, in terms of symbolic states; the rules, each proved once. -/
import Derived.Test.YtjeeligfdpociaaGreatSym
namespace Go.Proofs.YtjeeligfdpociaaGreat
open Go Go.RowKit

/-- The operation is carried out, and Post holds of what it yields. -/
def RunsTo (P : Program) (ρ : Nat → Value) (o : Oper) (w : World) (Q : Value → World → Prop) : Prop :=
  match (execOp (ev ρ) o).run P w with
  | .ok (.value v) w' => o.dst.isSome ∧ Q v w'
  | .ok .skip w' => o.dst = none ∧ Q undef w'
  | .ok (.enter f args) w' => Calls P f args w' fun e w'' => ∃ v, e = .returned v ∧ Q v w''
  | _ => False

section
variable {P : Program} {n : Nat} {ops : Array Oper} {K : (Nat → Value) → World → Prop} {rest : List Oper} {ρ : Nat → Value} {w : World}
variable {dst : Option Nat} {op : Op} {ty : TypeId} {pos : String} {aft : Array Edge} {Q : Value → World → Prop}

theorem RunsTo.mono {o : Oper} {Q' : Value → World → Prop} (h : RunsTo P ρ o w Q) (hq : ∀ v w', Q v w' → Q' v w') : RunsTo P ρ o w Q' := by
  unfold RunsTo at *
  generalize (execOp (ev ρ) o).run P w = r at *
  cases r with
  | halt x w' => exact h
  | ok x w' =>
    cases x <;> first
      | exact h
      | exact ⟨h.1, hq _ _ h.2⟩
      | exact h.mono fun e w'' ⟨v, he, hv⟩ => ⟨v, he, hq _ _ hv⟩

theorem RunsTo.val {d : Nat} {v : Value} {w' : World} (hr : (execOp (ev ρ) ⟨some d, op, ty, pos, aft, none⟩).run P w = .ok (.value v) w') (h : Q v w') : RunsTo P ρ ⟨some d, op, ty, pos, aft, none⟩ w Q := by
  unfold RunsTo
  rw [hr]
  exact ⟨rfl, h⟩
theorem RunsTo.unit {w' : World} (hr : (execOp (ev ρ) ⟨none, op, ty, pos, aft, none⟩).run P w = .ok .skip w') (h : Q undef w') : RunsTo P ρ ⟨none, op, ty, pos, aft, none⟩ w Q := by
  unfold RunsTo
  rw [hr]
  exact ⟨rfl, h⟩

theorem put_undef_none (a : Act) (v : Value) : a.put none v = a := rfl

theorem wpS_runs (h : RunsTo P ρ ⟨dst, op, ty, pos, aft, none⟩ w Q) (hd : ∀ d, dst = some d → Nat.blt d n = true)
    (hk : ∀ v w', Q v w' → wpS P n ops K rest (updo ρ dst v) w') : wpS P n ops K (⟨dst, op, ty, pos, aft, none⟩ :: rest) ρ w :=
  fun QQ a hf hkk => wpList_plain rfl fun K' hK => by
    unfold Oper.wp
    rw [hf.eval]
    unfold RunsTo at h
    generalize (execOp (ev ρ) ⟨dst, op, ty, pos, aft, none⟩).run P w = r at *
    have hput : ∀ v, Fr n (a.put dst v) (updo ρ dst v) := fun v => by
      cases dst with
      | none => exact hf
      | some d => exact hf.put (hd d rfl) v
    cases r with
    | halt x w' => exact h.elim
    | ok x w' =>
      cases x <;> first
        | exact h.elim
        | skip
      case value v => exact hK _ _ (hk v w' h.2 QQ _ (hput v) hkk)
      case skip => exact hK _ _ (hk undef w' h.2 QQ _ (hput undef) hkk)
      case enter f args =>
        refine h.mono fun e w'' ⟨v, he, hv⟩ => ?_
        subst he
        exact hK _ _ (hk v w'' hv QQ _ (hput v) hkk)
end

/-! ## Tables of types -/
inductive TyK where
  | int (k : IntKind)
  | bool
  | str
  | slice (e : TypeId)
  | struct (fs : List (TypeId × Nat))   -- type and offset of each field
  | array (n : Nat) (e : TypeId)
  | map (k v : TypeId)
  | ptr (e : TypeId)
  | other

def TyKOK (P : Program) (t : TypeId) : TyK → Prop
  | .int k => P.underlying t = some (.int k)
  | .bool => P.underlying t = some .bool
  | .str => P.underlying t = some .string
  | .slice e => P.underlying t = some (.slice e)
  | .struct fs => ∃ arr : Array Field, P.underlying t = some (.struct arr) ∧ arr.toList.map (fun f => (f.type, f.offset)) = fs
  | .array n e => P.underlying t = some (.array n e)
  | .map k v => P.underlying t = some (.map k v)
  | .ptr e => P.underlying t = some (.pointer e)
  | .other => ∃ d, P.underlying t = some d ∧ aggD d = false

def ZeroOK (P : Program) (t : TypeId) (agg : Bool) (r : Row) : Prop := ∃ z, (P.info? t).bind (·.zero) = some z ∧ z = (bif agg then .agg r.zeros.toArray else r.zeros.headD undef)

/-- A method of a type that is its own (not promoted): its function; does it take a pointer. -/
def MthOK (P : Program) (t : TypeId) (name : String) (f : FuncId) (pr : Bool) : Prop :=
  ((P.info? t).bind fun i => i.methods.find? fun m => m.name == name).map (fun m => (m.path.toList.length, m.func)) = some (0, some (f, pr))

structure Tabs (P : Program) where
  und : List (Nat × TyK)
  row : List (Nat × Row)
  eqs : List (Nat × Row)
  zer : List (Nat × (Bool × Row))
  und_ok : ∀ t k, find und t = some k → TyKOK P t k
  row_ok : ∀ t r, find row t = some r → TI P t r
  eqs_ok : ∀ t r, find eqs t = some r → ∃ K d, EqOK P t r K ∧ d + K = 10000 ∧ P.eqGuardType P.depth t = false ∧ (P.underlying t).any aggD = true
  zer_ok : ∀ t agg r, find zer t = some (agg, r) → ZeroOK P t agg r
  mth : List (TypeId × (String × (FuncId × Bool)))
  mth_ok : ∀ p ∈ mth, MthOK P p.1 p.2.1 p.2.2.1 p.2.2.2

def aggK : TyK → Bool
  | .struct _ | .array _ _ => true
  | _ => false

theorem TyKOK.agg {P : Program} {t : TypeId} {k : TyK} (h : TyKOK P t k) : ∃ d, P.underlying t = some d ∧ aggD d = aggK k := by
  cases k <;> first
    | exact ⟨_, h, rfl⟩
    | (obtain ⟨arr, h, _⟩ := h; exact ⟨_, h, rfl⟩)
    | exact h

theorem forall_find {α : Type} {Q : Nat → α → Prop} {l : List (Nat × α)} (h : ∀ p ∈ l, Q p.1 p.2) : ∀ t a, find l t = some a → Q t a := by
  intro t a
  induction l with
  | nil => intro h'; cases h'
  | cons p l ih =>
    obtain ⟨m, b⟩ := p
    rw [find_cons]
    split
    · rename_i e
      intro h'
      obtain rfl := Option.some.inj h'
      subst e
      exact h (m, b) (by simp)
    · exact ih (fun q hq => h q (by simp [hq]))

/-! ## Operands -/
def constD : Value → Option Desc
  | .int k n => some (.val false (.leaf (.int k) n))
  | .bool b => some (.val false (.leaf .bool b))
  | .string s => some (.val false (.leaf .str s))
  | .slice none 0 0 => some (.val false .nil)
  | .map none => some (.val false (.leaf (.nul .map) ()))
  | .pointer none => some (.val false (.leaf (.nul .ptr) ()))
  | .nilFunc => some (.val false (.leaf (.nul .func) ()))
  | .nilIface => some .dead
  | _ => none

def rdo (slots : List (Nat × Desc)) : Operand → Option Desc
  | .tmp t => find slots t
  | .const v => constD v
  | .func f => some (.fn f [])
  | .global g => match find globs g with
    | some d => some (.at d.1 d.2)
    | none => none

theorem ValOK.leaf1 {H : Hist} {F : Nat → Prop} {w : World} {r : Row} {x : r.den} {v : Value} (h : Rep F w r [v] x) : ValOK H F w false (.leaf r x) v := ⟨[v], h, rfl, fun _ => rfl⟩

theorem constD_ok {H : Hist} {F : Nat → Prop} {w : World} {v : Value} {d : Desc} (h : constD v = some d) : DescOK H F w d v := by
  unfold constD at h
  split at h <;> first | cases h | skip
  · exact ValOK.leaf1 rfl
  · exact ValOK.leaf1 rfl
  · exact ValOK.leaf1 rfl
  · exact ⟨_, rfl, rfl, fun _ => rfl⟩
  · exact ValOK.leaf1 rfl
  · exact ValOK.leaf1 rfl
  · exact ValOK.leaf1 rfl
  · trivial

theorem rdo_ok {H : Hist} {F : Nat → Prop} {w : World} {ρ : Nat → Value} {slots : List (Nat × Desc)} (hg : GlobOK F w) (h : ∀ t d, find slots t = some d → DescOK H F w d (ρ t)) : ∀ x d, rdo slots x = some d → DescOK H F w d (ev ρ x) := by
  intro x d hx
  cases x with
  | tmp t => exact h t d hx
  | const v => exact constD_ok hx
  | global g =>
    have hx' : (match find globs g with | some d => some (Desc.at d.1 d.2) | none => none) = some d := hx
    split at hx'
    · rename_i q hq
      obtain rfl := Option.some.inj hx'
      obtain ⟨h1, h2⟩ := hg g q hq
      exact ⟨g, 0, rfl, h1, h2⟩
    · cases hx'
  | func f => obtain rfl := Option.some.inj hx; exact ⟨[], rfl, rfl⟩

/-- Plain data of one cell. -/
theorem ValOK.inv {H : Hist} {F : Nat → Prop} {w : World} {r : Row} {x : r.den} {v : Value} (h : ValOK H F w false (.leaf r x) v) : Rep F w r [v] x := by
  obtain ⟨cs, h1, _, h3⟩ := h
  rw [h3 rfl] at h1
  exact h1
theorem ValOK.int {H : Hist} {F : Nat → Prop} {w : World} {k : IntKind} {x : Int} {v : Value} (h : ValOK H F w false (.leaf (.int k) x) v) : v = .int k x := by
  have := h.inv
  simpa [Rep] using this
theorem ValOK.bool {H : Hist} {F : Nat → Prop} {w : World} {x : Bool} {v : Value} (h : ValOK H F w false (.leaf .bool x) v) : v = .bool x := by
  have := h.inv
  simpa [Rep] using this
theorem ValOK.str {H : Hist} {F : Nat → Prop} {w : World} {x : ByteArray} {v : Value} (h : ValOK H F w false (.leaf .str x) v) : v = .string x := by
  have := h.inv
  simpa [Rep] using this
theorem ValOK.mkInt (H : Hist) (F : Nat → Prop) (w : World) (k : IntKind) (x : Int) : ValOK H F w false (.leaf (.int k) x) (.int k x) := ValOK.leaf1 rfl
theorem ValOK.mkBool (H : Hist) (F : Nat → Prop) (w : World) (x : Bool) : ValOK H F w false (.leaf .bool x) (.bool x) := ValOK.leaf1 rfl
theorem ValOK.mkStr (H : Hist) (F : Nat → Prop) (w : World) (x : ByteArray) : ValOK H F w false (.leaf .str x) (.string x) := ValOK.leaf1 rfl

abbrev dInt (k : IntKind) (x : Int) : Desc := .val false (.leaf (.int k) x)
abbrev dBool (x : Bool) : Desc := .val false (.leaf .bool x)
abbrev dStr (x : ByteArray) : Desc := .val false (.leaf .str x)

def asInt : Desc → Option (IntKind × Int)
  | .val false (.leaf (.int k) x) => some (k, x)
  | _ => none
def asBool : Desc → Option Bool
  | .val false (.leaf .bool x) => some x
  | _ => none
def asStr : Desc → Option ByteArray
  | .val false (.leaf .str x) => some x
  | _ => none

section
variable {P : Program} {ρ : Nat → Value} {w w' : World} {H H' : Hist} {F F' : Nat → Prop} {U : Nat → Prop} {ob : Nat → Option (Nat × Th)} {n : Nat} {R : Type}
variable {dst : Option Nat} {op : Op} {ty : TypeId} {pos : String} {aft : Array Edge} {d : Nat}

theorem asInt_ok {D : Desc} {k : IntKind} {x : Int} {v : Value} (h : asInt D = some (k, x)) (hd : DescOK H F w D v) : v = .int k x := by
  unfold asInt at h
  split at h <;> cases h
  exact ValOK.int hd
theorem asBool_ok {D : Desc} {x : Bool} {v : Value} (h : asBool D = some x) (hd : DescOK H F w D v) : v = .bool x := by
  unfold asBool at h
  split at h <;> cases h
  exact ValOK.bool hd
theorem asStr_ok {D : Desc} {x : ByteArray} {v : Value} (h : asStr D = some x) (hd : DescOK H F w D v) : v = .string x := by
  unfold asStr at h
  split at h <;> cases h
  exact ValOK.str hd

/-- What an operation's rule says. -/
def Says (P : Program) (_U : Nat → Prop) (H : Hist) (F : Nat → Prop) (w : World) (ρ : Nat → Value) (ob : Nat → Option (Nat × Th)) (n : Nat) (o : Oper) (e : Eff) : Prop :=
  RunsTo P ρ o w (PostE H F w ob n e)

theorem Evo.refl {g : Nat → Prop} (hF : ∀ b, F b → b < w.heap.size) : Evo H F w H F w g := ⟨Hist.le.refl H, ⟨rfl, rfl, rfl, Nat.le_refl _, fun _ _ _ => rfl⟩, fun _ h => h, fun _ h => .inl h, hF⟩

theorem Made.nil {g : Nat → Prop} : Made H' F' w w' g [] := ⟨fun _ _ _ h => (by cases h), fun _ _ _ _ _ _ _ _ _ h => (by cases h)⟩

/-- Nothing but a value is yielded. -/
theorem Post.pure (hs : ObSat U H F w ob n) {D : Desc} {v : Value} (h : DescOK H F w D v) : PostE H F w ob n { dst := D } v w :=
  ⟨H, F, Evo.refl hs.lt, fun m hm => ⟨id, id⟩, h, Made.nil, fun o h => by cases h⟩

theorem says_pure (hs : ObSat U H F w ob n) {D : Desc} {v : Value} (hr : (execOp (ev ρ) ⟨some d, op, ty, pos, aft, none⟩).run P w = .ok (.value v) w) (h : DescOK H F w D v) : Says P U H F w ρ ob n ⟨some d, op, ty, pos, aft, none⟩ { dst := D } :=
  RunsTo.val hr (Post.pure hs h)

theorem says_Pure (hs : ObSat U H F w ob n) {D : Desc} {v : Value} (hr : Pure P ρ ⟨some d, op, ty, pos, aft, none⟩ v) (h : DescOK H F w D v) : Says P U H F w ρ ob n ⟨some d, op, ty, pos, aft, none⟩ { dst := D } :=
  says_pure hs (hr w) h

/-! ## Operators -/
def bitsA (o : BinOp) (k : IntKind) (a b : Int) : Int :=
  match o with
  | .and => k.wrap (BitVec.ofInt k.bits a &&& BitVec.ofInt k.bits b).toNat
  | .or => k.wrap (BitVec.ofInt k.bits a ||| BitVec.ofInt k.bits b).toNat
  | .xor => k.wrap (BitVec.ofInt k.bits a ^^^ BitVec.ofInt k.bits b).toNat
  | _ => k.wrap (BitVec.ofInt k.bits a &&& ~~~BitVec.ofInt k.bits b).toNat
def shlV (k : IntKind) (a b : Int) : Int := k.wrap (a * 2 ^ min b.toNat k.bits)
def shrV (k : IntKind) (a b : Int) : Int := a.fdiv (2 ^ min b.toNat k.bits)
def shlA (k : IntKind) (a b : Int) : Option Int := if b < 0 then none else some (shlV k a b)
def shrA (k : IntKind) (a b : Int) : Option Int := if b < 0 then none else some (shrV k a b)

def arith : BinOp → IntKind → Int → Int → Option Desc
  | .add, k, a, b => some (dInt k (k.wrap (a + b)))
  | .sub, k, a, b => some (dInt k (k.wrap (a - b)))
  | .mul, k, a, b => some (dInt k (k.wrap (a * b)))
  | .lss, _, a, b => some (dBool (decide (a < b)))
  | .leq, _, a, b => some (dBool (decide (a ≤ b)))
  | .gtr, _, a, b => some (dBool (decide (b < a)))
  | .geq, _, a, b => some (dBool (decide (b ≤ a)))
  | .eql, _, a, b => some (dBool (decide (a = b)))
  | .neq, _, a, b => some (dBool (!decide (a = b)))
  | .and, k, a, b => some (dInt k (bitsA .and k a b))
  | .or, k, a, b => some (dInt k (bitsA .or k a b))
  | .xor, k, a, b => some (dInt k (bitsA .xor k a b))
  | .andNot, k, a, b => some (dInt k (bitsA .andNot k a b))
  | _, _, _, _ => none

theorem pure_and {k : IntKind} {a b : Int} {t u : TypeId} {x y : Operand} (hx : ev ρ x = .int k a) (hy : ev ρ y = .int k b) : Pure P ρ ⟨some d, .binOp .and t x y u, ty, pos, aft, none⟩ (.int k (bitsA .and k a b)) := fun w => by simp [execOp, hx, hy, binOp, Op.intBits, eqGuard, bitsA, go_sem]
theorem pure_or {k : IntKind} {a b : Int} {t u : TypeId} {x y : Operand} (hx : ev ρ x = .int k a) (hy : ev ρ y = .int k b) : Pure P ρ ⟨some d, .binOp .or t x y u, ty, pos, aft, none⟩ (.int k (bitsA .or k a b)) := fun w => by simp [execOp, hx, hy, binOp, Op.intBits, eqGuard, bitsA, go_sem]
theorem pure_xor {k : IntKind} {a b : Int} {t u : TypeId} {x y : Operand} (hx : ev ρ x = .int k a) (hy : ev ρ y = .int k b) : Pure P ρ ⟨some d, .binOp .xor t x y u, ty, pos, aft, none⟩ (.int k (bitsA .xor k a b)) := fun w => by simp [execOp, hx, hy, binOp, Op.intBits, eqGuard, bitsA, go_sem]
theorem pure_andNot {k : IntKind} {a b : Int} {t u : TypeId} {x y : Operand} (hx : ev ρ x = .int k a) (hy : ev ρ y = .int k b) : Pure P ρ ⟨some d, .binOp .andNot t x y u, ty, pos, aft, none⟩ (.int k (bitsA .andNot k a b)) := fun w => by simp [execOp, hx, hy, binOp, Op.intBits, eqGuard, bitsA, go_sem]
theorem pure_shl {k k' : IntKind} {a b : Int} {t u : TypeId} {x y : Operand} (hx : ev ρ x = .int k a) (hy : ev ρ y = .int k' b) (hb : ¬ b < 0) : Pure P ρ ⟨some d, .binOp .shl t x y u, ty, pos, aft, none⟩ (.int k (shlV k a b)) := fun w => by simp [execOp, hx, hy, binOp, Op.shift, eqGuard, shlV, hb, go_sem]
theorem pure_shr {k k' : IntKind} {a b : Int} {t u : TypeId} {x y : Operand} (hx : ev ρ x = .int k a) (hy : ev ρ y = .int k' b) (hb : ¬ b < 0) : Pure P ρ ⟨some d, .binOp .shr t x y u, ty, pos, aft, none⟩ (.int k (shrV k a b)) := fun w => by simp [execOp, hx, hy, binOp, Op.shift, eqGuard, shrV, hb, go_sem]

theorem arith_ok {o : BinOp} {k : IntKind} {a b : Int} {D : Desc} {t u : TypeId} {x y : Operand} (h : arith o k a b = some D) (hs : ObSat U H F w ob n) (hx : ev ρ x = .int k a) (hy : ev ρ y = .int k b) :
    Says P U H F w ρ ob n ⟨some d, .binOp o t x y u, ty, pos, aft, none⟩ { dst := D } := by
  unfold arith at h
  split at h <;> cases h
  · exact says_Pure hs (pure_add hx hy) (ValOK.mkInt ..)
  · exact says_Pure hs (pure_sub hx hy) (ValOK.mkInt ..)
  · exact says_Pure hs (pure_mul hx hy) (ValOK.mkInt ..)
  · exact says_Pure hs (pure_lss hx hy) (ValOK.mkBool ..)
  · exact says_Pure hs (pure_leq hx hy) (ValOK.mkBool ..)
  · exact says_Pure hs (pure_gtr hx hy) (ValOK.mkBool ..)
  · exact says_Pure hs (pure_geq hx hy) (ValOK.mkBool ..)
  · exact says_Pure hs (pure_eql hx hy) (ValOK.mkBool ..)
  · exact says_Pure hs (pure_neq hx hy) (ValOK.mkBool ..)
  · exact says_Pure hs (pure_and hx hy) (ValOK.mkInt ..)
  · exact says_Pure hs (pure_or hx hy) (ValOK.mkInt ..)
  · exact says_Pure hs (pure_xor hx hy) (ValOK.mkInt ..)
  · exact says_Pure hs (pure_andNot hx hy) (ValOK.mkInt ..)

/-- Quotient and remainder: by a divisor that is not zero. -/
def quoA (a b : Int) : Option Int := if b = 0 then none else some (Int.tdiv a b)
def remA (a b : Int) : Option Int := if b = 0 then none else some (Int.tmod a b)

def isLit : Operand → Bool
  | .const _ => true
  | _ => false

theorem quo_ok {k : IntKind} {a b : Int} {t u : TypeId} {x y : Operand} (hb : b ≠ 0) (hs : ObSat U H F w ob n) (hx : ev ρ x = .int k a) (hy : ev ρ y = .int k b) :
    Says P U H F w ρ ob n ⟨some d, .binOp .quo t x y u, ty, pos, aft, none⟩ { dst := dInt k (k.wrap (Int.tdiv a b)) } :=
  says_Pure hs (pure_quo hx hy hb) (ValOK.mkInt ..)
theorem rem_ok {k : IntKind} {a b : Int} {t u : TypeId} {x y : Operand} (hb : b ≠ 0) (hs : ObSat U H F w ob n) (hx : ev ρ x = .int k a) (hy : ev ρ y = .int k b) :
    Says P U H F w ρ ob n ⟨some d, .binOp .rem t x y u, ty, pos, aft, none⟩ { dst := dInt k (Int.tmod a b) } :=
  says_Pure hs (pure_rem hx hy hb) (ValOK.mkInt ..)
end
end Go.Proofs.YtjeeligfdpociaaGreat
