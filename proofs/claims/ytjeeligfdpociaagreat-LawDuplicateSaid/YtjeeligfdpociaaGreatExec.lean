/- The walk, by a function: code carried out on symbolic states; that what it says holds. -/
import Derived.Test.YtjeeligfdpociaaGreatIfc
namespace Go.Proofs.YtjeeligfdpociaaGreat
open Go Go.RowKit

structure Env (P : Program) where
  T : Tabs P
  tab : List (Nat × Sig)
  ok : ∀ p ∈ tab, FnOK P p.1 p.2
  mix : P.follows .mixedOrders = true
  deep : Bool
  drop : Bool

/-! ## One operation -/
def capsOf (rd : Operand → Option Desc) : List Operand → Option (List (Nat × List Bool × Nat))
  | [] => some []
  | x :: xs => match rd x with
    | some (.ptr o p off) => match capsOf rd xs with
      | some cs => some ((o, p, off) :: cs)
      | none => none
    | _ => none
theorem capsOf_ok {H : Hist} {F : Nat → Prop} {w : World} {ρ : Nat → Value} {rd : Operand → Option Desc} (hrd : ∀ x d, rd x = some d → DescOK H F w d (ev ρ x)) : {xs : List Operand} → {cs : List (Nat × List Bool × Nat)} → capsOf rd xs = some cs → CapsOK H cs (xs.map (ev ρ))
  | [], cs, h => by obtain rfl := Option.some.inj h; rfl
  | x :: xs, cs, h => by
    unfold capsOf at h
    split at h
    case h_2 => cases h
    rename_i o p off hx
    split at h
    case h_2 => cases h
    rename_i cs' hcs
    obtain rfl := Option.some.inj h
    exact ⟨_, _, rfl, hrd _ _ hx, capsOf_ok hrd hcs⟩
def eMakeFunc {R : Type} (rd : Operand → Option Desc) (fn : Fn) (first caps : Array Operand) (k : Eff → Option R) : Option R :=
  match fn, first.toList with
  | .func f, [] => match capsOf rd caps.toList with
    | some cs => k { dst := .fn f cs }
    | none => none
  | _, _ => none
theorem eMakeFunc_ok {R : Type} {P : Program} {U : Nat → Prop} {H : Hist} {F : Nat → Prop} {w : World} {ρ : Nat → Value} {ob : Nat → Option (Nat × Th)} {n d : Nat} {ty : TypeId} {pos : String} {aft : Array Edge} {rd : Operand → Option Desc} (hrd : ∀ x d, rd x = some d → DescOK H F w d (ev ρ x)) {fn : Fn} {first caps : Array Operand} {k : Eff → Option R} {q : R}
    (h : eMakeFunc rd fn first caps k = some q) (hs : ObSat U H F w ob n) : ∃ e, k e = some q ∧ Says P U H F w ρ ob n ⟨some d, .makeFunc fn first caps, ty, pos, aft, none⟩ e := by
  unfold eMakeFunc at h
  split at h
  case h_2 => cases h
  rename_i f hf
  split at h
  case h_2 => cases h
  rename_i cs hcs
  have hfirst : first = #[] := by rw [← Array.toArray_toList (xs := first), hf]
  subst hfirst
  have e : caps.map (ev ρ) = (caps.toList.map (ev ρ)).toArray := by rw [← List.map_toArray, Array.toArray_toList]
  exact ⟨_, h, says_pure hs (v := .func (.func f) #[] (caps.toList.map (ev ρ)).toArray) (by simp [execOp, Instr.makeFunc, e]) ⟨_, rfl, capsOf_ok hrd hcs⟩⟩

noncomputable def callE {R : Type} {P : Program} (E : Env P) (rd : Operand → Option Desc) (objs : List (Nat × (Nat × Th))) (n : Nat) (callee : Callee) (args : Array Operand) (tys : Array TypeId) (k : Eff → Option R) : Option R :=
  match callee with
  | .builtin .len => match args.toList, tys.toList with
    | [x], [t] => match rd x with
      | some D => match eLen E.T (find objs) t D with
        | some D' => k { dst := D' }
        | none => none
      | none => none
    | _, _ => none
  | .builtin .append => match args.toList, tys.toList with
    | [x, y], [t, t'] => bif Nat.beq t t' then (match rd x with
      | some X => match rd y with
        | some Y => eAppendX E.T (find objs) n t X Y k
        | none => none
      | none => none) else none
    | _, _ => none
  | .builtin .max => match args.toList, tys.toList with
    | [x, y], [_, _] => match rd x with
      | some X => match rd y with
        | some Y => match eMinMax true X Y with
          | some D => k { dst := D }
          | none => none
        | none => none
      | none => none
    | _, _ => none
  | .builtin .min => match args.toList, tys.toList with
    | [x, y], [_, _] => match rd x with
      | some X => match rd y with
        | some Y => match eMinMax false X Y with
          | some D => k { dst := D }
          | none => none
        | none => none
      | none => none
    | _, _ => none
  | .value g => eCall E.tab rd objs n g args.toList k
  | .invoke x name => eInvoke E.T E.tab rd objs n x name args.toList k
  | _ => none

noncomputable def opE {R : Type} {P : Program} (E : Env P) (rd : Operand → Option Desc) (objs : List (Nat × (Nat × Th))) (n : Nat) (dst : Option Nat) (op : Op) (k : Eff → Option R) : Option R :=
  match dst with
  | none => match op with
    | .store t x y => match rd x with
      | some X => match rd y with
        | some Y => eStoreX E.T (find objs) n t X Y k
        | none => none
      | none => none
    | .call c => callE E rd objs n c.callee c.args c.argTypes k
    | .mapUpdate t m x y => match rd m with
      | some M => match rd x with
        | some X => match rd y with
          | some Y => eMapUpdateX E.T (find objs) n t M X Y k
          | none => none
        | none => none
      | none => none
    | _ => none
  | some _ => match op with
    | .move x => match rd x with
      | some D => k { dst := D }
      | none => none
    | .assign x => match rd x with
      | some D => k { dst := D }
      | none => none
    | .pick c x y => match rd c with
      | some C => match asBool C with
        | some b => match (if b = true then rd x else rd y) with
          | some D => k { dst := D }
          | none => none
        | none => none
      | none => none
    | .alloc t => eAlloc E.T n t k
    | .box t x => match rd x with
      | some X => eBox n t X k
      | none => none
    | .build t ps => eBuild E.T rd t ps k
    | .buildSlice t m ps => eBuildX E.deep E.T rd (find objs) n t m ps k
    | .load t x => match rd x with
      | some X => eLoadX E.T (find objs) n t X k
      | none => none
    | .nilCheck x => match rd x with
      | some (.ptr o p off) => k { dst := .ptr o p off }
      | some (.elem o s r i z p off) => k { dst := .elem o s r i z p off }
      | some (.dlm o d i p off) => k { dst := .dlm o d i p off }
      | some (.at r z) => k { dst := .at r z }
      | _ => none
    | .binOp o t x y _ => match rd x with
      | some X => match rd y with
        | some Y => eBin E.T (find objs) o t (isLit y) X Y k
        | none => none
      | none => none
    | .unOp o _ x => match rd x with
      | some X => match eUn o X with
        | some D => k { dst := D }
        | none => none
      | none => none
    | .convert s t x => match rd x with
      | some X => match eConv E.T s t X with
        | some D => k { dst := D }
        | none => none
      | none => none
    | .makeSlice t a b => match rd a with
      | some A => match asInt A with
        | some (_, i) => match rd b with
          | some B => match asInt B with
            | some (_, j) => eMakeX E.deep E.T n t (sameOp a b) i j k
            | none => none
          | none => none
        | none => none
      | none => none
    | .slice t x lo hi none => match rd x with
      | some X => eSlice E.drop E.T rd (find objs) n t X lo hi k
      | none => none
    | .fieldAddr t x f => match rd x with
      | some X => match eField E.T t f X with
        | some D => k { dst := D }
        | none => none
      | none => none
    | .field t x f => match rd x with
      | some X => match eFieldV E.T t f X with
        | some D => k { dst := D }
        | none => none
      | none => none
    | .indexAddr t x y => match rd x with
      | some X => match rd y with
        | some Y => match asInt Y with
          | some (_, i) => eIndex E.T (find objs) t X i k
          | none => none
        | none => none
      | none => none
    | .index t x y => match rd x with
      | some X => match rd y with
        | some Y => match asInt Y with
          | some (_, i) => eIndexV E.T (find objs) t X i k
          | none => none
        | none => none
      | none => none
    | .extract x i => match rd x with
      | some X => match eExtract X i with
        | some D => k { dst := D }
        | none => none
      | none => none
    | .call c => callE E rd objs n c.callee c.args c.argTypes k
    | .makeFunc fn first caps => eMakeFunc rd fn first caps k
    | .makeMap t none => eMakeMapX E.deep E.T n t k
    | .lookup t m x ok => match rd m with
      | some M => match rd x with
        | some X => eLookupX E.T (find objs) n t ok M X k
        | none => none
      | none => none
    | .makeInterface t x => match rd x with
      | some X => eIfc E.T t X k
      | none => none
    | .typeAssert x _ t ok => match rd x with
      | some X => eAssert E.T t ok X k
      | none => none
    | _ => none

section
variable {P : Program} {ρ : Nat → Value} {w w' : World} {H H' : Hist} {F F' : Nat → Prop} {U : Nat → Prop} {n : Nat} {R : Type}
variable {ty : TypeId} {pos : String} {aft : Array Edge} {dst : Option Nat} {d : Nat}

theorem toArray_of {α : Type} {a : Array α} {l : List α} (h : a.toList = l) : a = l.toArray := by rw [← h, Array.toArray_toList]

theorem callE_ok (E : Env P) {rd : Operand → Option Desc} (hrd : ∀ x d, rd x = some d → DescOK H F w d (ev ρ x)) {objs : List (Nat × (Nat × Th))} {c : Call} {k : Eff → Option R} {q : R}
    (h : callE E rd objs n c.callee c.args c.argTypes k = some q) (hs : ObSat U H F w (find objs) n) : ∃ e, k e = some q ∧ Says P U H F w ρ (find objs) n ⟨some d, .call c, ty, pos, aft, none⟩ e := by
  obtain ⟨callee, args, tys⟩ := c
  simp only at h
  unfold callE at h
  split at h
  · split at h
    case h_2 => cases h
    rename_i x t ha ht
    obtain rfl := toArray_of ha
    obtain rfl := toArray_of ht
    split at h
    case h_2 => cases h
    rename_i D hD
    split at h
    case h_2 => cases h
    rename_i D' hD'
    exact ⟨_, h, eLen_ok E.T hD' hs (hrd _ _ hD)⟩
  · split at h
    case h_2 => cases h
    rename_i x y t t' ha ht
    obtain rfl := toArray_of ha
    obtain rfl := toArray_of ht
    obtain ⟨hb, h'⟩ := bif_eq h
    clear h
    obtain rfl := beq_true hb
    split at h'
    case h_2 => cases h'
    rename_i X hX
    split at h'
    case h_2 => cases h'
    rename_i Y hY
    exact eAppendX_ok E.T h' hs (hrd _ _ hX) (hrd _ _ hY)
  · split at h
    case h_2 => cases h
    rename_i x y t t' ha ht
    obtain rfl := toArray_of ha
    obtain rfl := toArray_of ht
    split at h
    case h_2 => cases h
    rename_i X hX
    split at h
    case h_2 => cases h
    rename_i Y hY
    split at h
    case h_2 => cases h
    rename_i D hD
    exact ⟨_, h, eMinMax_ok (mx := true) hD hs (hrd _ _ hX) (hrd _ _ hY)⟩
  · split at h
    case h_2 => cases h
    rename_i x y t t' ha ht
    obtain rfl := toArray_of ha
    obtain rfl := toArray_of ht
    split at h
    case h_2 => cases h
    rename_i X hX
    split at h
    case h_2 => cases h
    rename_i Y hY
    split at h
    case h_2 => cases h
    rename_i D hD
    exact ⟨_, h, eMinMax_ok (mx := false) hD hs (hrd _ _ hX) (hrd _ _ hY)⟩
  · exact eCall_ok E.ok hrd h hs
  · exact eInvoke_ok E.T E.ok hrd h hs
  · cases h

def isFn : Callee → Bool
  | .value _ => true
  | .invoke .. => true
  | _ => false

theorem callE_ok_none (E : Env P) {rd : Operand → Option Desc} (hrd : ∀ x d, rd x = some d → DescOK H F w d (ev ρ x)) {objs : List (Nat × (Nat × Th))} {c : Call} {k : Eff → Option R} {q : R} (hc : isFn c.callee = true)
    (h : callE E rd objs n c.callee c.args c.argTypes k = some q) (hs : ObSat U H F w (find objs) n) : ∃ e, k e = some q ∧ Says P U H F w ρ (find objs) n ⟨none, .call c, ty, pos, aft, none⟩ e := by
  obtain ⟨callee, args, tys⟩ := c
  simp only at h hc
  cases callee with
  | value g => exact eCall_ok E.ok hrd h hs
  | invoke x name => exact eInvoke_ok E.T E.ok hrd h hs
  | builtin b => cases hc
end

section
variable {P : Program} {ρ : Nat → Value} {w w' : World} {H H' : Hist} {F F' : Nat → Prop} {U : Nat → Prop} {n : Nat} {R : Type}
variable {ty : TypeId} {pos : String} {aft : Array Edge} {dst : Option Nat} {d : Nat}

theorem says_pick {c x y : Operand} {b : Bool} {D : Desc} {ob : Nat → Option (Nat × Th)} (hs : ObSat U H F w ob n) (hc : ev ρ c = .bool b) (hx : DescOK H F w D (ev ρ (if b = true then x else y))) : Says P U H F w ρ ob n ⟨some d, .pick c x y, ty, pos, aft, none⟩ { dst := D } := by
  cases b with
  | true => exact says_Pure hs (pure_pick_true hc rfl) hx
  | false => exact says_Pure hs (pure_pick_false hc rfl) hx

theorem opE_ok (E : Env P) {rd : Operand → Option Desc} (hrd : ∀ x d, rd x = some d → DescOK H F w d (ev ρ x)) {objs : List (Nat × (Nat × Th))} {op : Op} {k : Eff → Option R} {q : R}
    (hfn : dst = none → ∀ c, op = .call c → isFn c.callee = true) (h : opE E rd objs n dst op k = some q) (hs : ObSat U H F w (find objs) n) : ∃ e, k e = some q ∧ Says P U H F w ρ (find objs) n ⟨dst, op, ty, pos, aft, none⟩ e := by
  cases dst with
  | none =>
    unfold opE at h
    simp only at h
    split at h
    · split at h
      case h_2 => cases h
      rename_i X hX
      split at h
      case h_2 => cases h
      rename_i Y hY
      exact eStoreX_ok E.T h hs (hrd _ _ hX) (hrd _ _ hY)
    · rename_i c
      exact callE_ok_none E hrd (hfn rfl c rfl) h hs
    · split at h
      case h_2 => cases h
      rename_i M hM
      split at h
      case h_2 => cases h
      rename_i X hX
      split at h
      case h_2 => cases h
      rename_i Y hY
      exact eMapUpdateX_ok E.T h hs (hrd _ _ hM) (hrd _ _ hX) (hrd _ _ hY)
    · cases h
  | some d =>
    unfold opE at h
    simp only at h
    split at h
    · split at h
      case h_2 => cases h
      rename_i D hD
      exact ⟨_, h, says_move hs (hrd _ _ hD)⟩
    · split at h
      case h_2 => cases h
      rename_i D hD
      exact ⟨_, h, says_assign hs (hrd _ _ hD)⟩
    · split at h
      case h_2 => cases h
      rename_i C hC
      split at h
      case h_2 => cases h
      rename_i b hb
      split at h
      case h_2 => cases h
      rename_i D hD
      refine ⟨_, h, says_pick hs (asBool_ok hb (hrd _ _ hC)) ?_⟩
      split at hD
      · rename_i e; rw [if_pos e]; exact hrd _ _ hD
      · rename_i e; rw [if_neg e]; exact hrd _ _ hD
    · exact eAlloc_ok E.T h hs
    · split at h
      case h_2 => cases h
      rename_i X hX
      exact eBox_ok h hs (hrd _ _ hX)
    · exact eBuild_ok E.T hrd h hs
    · exact eBuildX_ok E.deep E.T hrd h hs
    · split at h
      case h_2 => cases h
      rename_i X hX
      exact eLoadX_ok E.T h hs (hrd _ _ hX)
    · split at h
      · rename_i o p off hX
        obtain ⟨b, h1, h2⟩ := hrd _ _ hX
        exact ⟨_, h, says_pure hs (v := .pointer (some ⟨b, off, none⟩)) (by simp [execOp, h2]) ⟨b, h1, rfl⟩⟩
      · rename_i o s r i z p off hX
        have hd := hrd _ _ hX
        obtain ⟨g, o0, q, T, m, cap, l, _, _, _, _, h2⟩ := id hd
        exact ⟨_, h, says_pure hs (v := .pointer (some ⟨g, o0 + q * r.size + off, none⟩)) (by simp [execOp, h2]) (by rw [← h2]; exact hd)⟩
      · rename_i o d i p off hX
        have hd := hrd _ _ hX
        obtain ⟨g, o0, q, m, cap, _, _, h2⟩ := id hd
        exact ⟨_, h, says_pure hs (v := .pointer (some ⟨g, o0 + q * d.low.size + off, none⟩)) (by simp [execOp, h2]) (by rw [← h2]; exact hd)⟩
      · rename_i r z hX
        have hd := hrd _ _ hX
        obtain ⟨b, off, h2, _⟩ := id hd
        exact ⟨_, h, says_pure hs (v := .pointer (some ⟨b, off, none⟩)) (by simp [execOp, h2]) (by rw [← h2]; exact hd)⟩
      · cases h
    · split at h
      case h_2 => cases h
      rename_i X hX
      split at h
      case h_2 => cases h
      rename_i Y hY
      exact eBin_ok E.T h hs (hrd _ _ hX) (hrd _ _ hY)
    · split at h
      case h_2 => cases h
      rename_i X hX
      split at h
      case h_2 => cases h
      rename_i D hD
      exact ⟨_, h, eUn_ok hD hs (hrd _ _ hX)⟩
    · split at h
      case h_2 => cases h
      rename_i X hX
      split at h
      case h_2 => cases h
      rename_i D hD
      exact ⟨_, h, eConv_ok E.T hD hs (hrd _ _ hX)⟩
    · split at h
      case h_2 => cases h
      rename_i A hA
      split at h
      case h_2 => cases h
      rename_i i hi
      split at h
      case h_2 => cases h
      rename_i B hB
      split at h
      case h_2 => cases h
      rename_i j hj
      exact eMakeX_ok E.deep E.T h hs (asInt_ok hi (hrd _ _ hA)) (asInt_ok hj (hrd _ _ hB))
    · split at h
      case h_2 => cases h
      rename_i X hX
      exact eSlice_ok E.drop E.T hrd h hs (hrd _ _ hX)
    · split at h
      case h_2 => cases h
      rename_i X hX
      split at h
      case h_2 => cases h
      rename_i D hD
      exact ⟨_, h, eField_ok E.T hD hs (hrd _ _ hX)⟩
    · split at h
      case h_2 => cases h
      rename_i X hX
      split at h
      case h_2 => cases h
      rename_i D hD
      exact ⟨_, h, eFieldV_ok E.T hD hs (hrd _ _ hX)⟩
    · split at h
      case h_2 => cases h
      rename_i X hX
      split at h
      case h_2 => cases h
      rename_i Y hY
      split at h
      case h_2 => cases h
      rename_i i hi
      exact eIndex_ok E.T h hs (hrd _ _ hX) (asInt_ok hi (hrd _ _ hY))
    · split at h
      case h_2 => cases h
      rename_i X hX
      split at h
      case h_2 => cases h
      rename_i Y hY
      split at h
      case h_2 => cases h
      rename_i k' i hi
      exact eIndexV_ok E.T h hs (hrd _ _ hX) (asInt_ok hi (hrd _ _ hY))
    · split at h
      case h_2 => cases h
      rename_i X hX
      split at h
      case h_2 => cases h
      rename_i D hD
      exact ⟨_, h, eExtract_ok hD hs (hrd _ _ hX)⟩
    · exact callE_ok E hrd h hs
    · exact eMakeFunc_ok hrd h hs
    · exact eMakeMapX_ok E.deep E.T h hs
    · split at h
      case h_2 => cases h
      rename_i M hM
      split at h
      case h_2 => cases h
      rename_i X hX
      exact eLookupX_ok E.T h hs (hrd _ _ hM) (hrd _ _ hX)
    · split at h
      case h_2 => cases h
      rename_i X hX
      exact eIfc_ok E.T h hs (hrd _ _ hX)
    · split at h
      case h_2 => cases h
      rename_i X hX
      exact eAssert_ok E.T h hs (hrd _ _ hX)
    · cases h
end

/-! ## Lists of operations -/
/-- What is frozen ahead of an operation. -/
def ownsOf (rd : Operand → Option Desc) (x : Operand) : List Nat :=
  match rd x with
  | some (.val _ t) => t.owns
  | _ => []
def viewsOf (rd : Operand → Option Desc) (x : Operand) : List Nat :=
  match rd x with
  | some (.val _ (.view o _ _ _)) => [o]
  | _ => []
def ownsAll (rd : Operand → Option Desc) : List Operand → List Nat
  | [] => []
  | x :: xs => ownsOf rd x ++ ownsAll rd xs
def isNilC : Operand → Bool
  | .const (.slice none 0 0) => true
  | _ => false
def opNeeds (rd : Operand → Option Desc) : Op → List Nat
  | .store _ x y => match rd x with
    | some (.elem ..) => ownsOf rd y
    | _ => []
  | .buildSlice _ _ ps => ownsAll rd (ps.toList.map (·.2))
  | .binOp .eql _ x y _ => bif isNilC y then [] else ownsOf rd x ++ ownsOf rd y
  | .binOp .neq _ x y _ => bif isNilC y then [] else ownsOf rd x ++ ownsOf rd y
  | .slice _ x _ _ _ => viewsOf rd x
  | .indexAddr _ x _ => viewsOf rd x
  | .call c => match c.callee, c.args.toList with
    | .builtin .append, [_, y] => viewsOf rd y
    | _, _ => []
  | .mapUpdate _ _ _ y => ownsOf rd y
  | _ => []

def dstOK (nt : Nat) : Option Nat → Bool
  | some d => Nat.blt d nt
  | none => true
def fnB (dst : Option Nat) (op : Op) : Bool :=
  match dst with
  | some _ => true
  | none => match op with
    | .call c => isFn c.callee
    | _ => true

open Classical in
/-- Two ways of which it is not known which one is gone: both must come to the same. -/
noncomputable def Both {α : Type} (a b : Option α) : Option α := if a = b then a else none
theorem both_l {α : Type} {a b : Option α} {q : α} (h : Both a b = some q) : a = some q := by
  unfold Both at h
  split at h
  · exact h
  · cases h
theorem both_r {α : Type} {a b : Option α} {q : α} (h : Both a b = some q) : b = some q := by
  have ha := both_l h
  unfold Both at h
  split at h
  · rename_i e; rw [← e]; exact ha
  · cases h

/-- A comparison of a slice with nil: whether it asks for the contrary, how long the slice is. -/
def nilOp {P : Program} (T : Tabs P) (rd : Operand → Option Desc) (ob : Nat → Option (Nat × Th)) : Op → Option (Bool × Nat)
  | .binOp o t x y _ => match o with
    | .eql => bif isNilC y then (match find T.und t with
      | some (.slice _) => match rd x with
        | some X => match asSl ob X with
          | some (.read _ l) => some (false, l.length)
          | some (.own _ _ _ _ l) => some (false, l.length)
          | _ => none
        | none => none
      | _ => none) else none
    | .neq => bif isNilC y then (match find T.und t with
      | some (.slice _) => match rd x with
        | some X => match asSl ob X with
          | some (.read _ l) => some (true, l.length)
          | some (.own _ _ _ _ l) => some (true, l.length)
          | _ => none
        | none => none
      | _ => none) else none
    | _ => none
  | _ => none

def grpAt (objs : List (Nat × (Nat × Th))) : Option Desc → Bool
  | some (.val false (.own o)) => match find objs o with
    | some (_, .dmap ..) => true
    | _ => false
  | _ => false
/-- A map whose values own slices takes what is stored. -/
def opNeedsO (rd : Operand → Option Desc) (objs : List (Nat × (Nat × Th))) : Op → List Nat
  | .mapUpdate t m x y => bif grpAt objs (rd m) then [] else opNeeds rd (.mapUpdate t m x y)
  | .lookup t m x false => bif grpAt objs (rd m) then ownsOf rd m else []
  | op => opNeeds rd op
/-- What is frozen ahead; where slices may own slices, a literal takes them. -/
def needsE {P : Program} (E : Env P) (rd : Operand → Option Desc) (objs : List (Nat × (Nat × Th))) (op : Op) : List Nat :=
  match E.deep, op with
  | true, .buildSlice .. => []
  | _, _ => opNeedsO rd objs op
/-- What was taken out is put back. -/
noncomputable def mendAt (st : State) (o : Nat) : State :=
  match mendX (find st.objs) st.nxt o with
  | some e => st.apply none e
  | none => st
noncomputable def mendL (st : State) : List Nat → State
  | [] => st
  | o :: os => mendL (mendAt st o) os
def holeB : List (Nat × (Nat × Th)) → Bool
  | [] => false
  | (_, (_, .deep _ _ _ (some _))) :: _ => true
  | (_, (_, .dmap _ _ _ _ _ (some _))) :: _ => true
  | _ :: l => holeB l
noncomputable def mendS (st : State) : State :=
  match holeB st.objs with
  | true => mendL (mendL st (st.objs.map (·.1))) (st.objs.map (·.1))
  | false => st
def callB : Op → Bool
  | .call c => isFn c.callee
  | _ => false

/-- An argument that was taken out of a slice of slices: then nothing is put back ahead of the call. -/
def isHole (o : Nat) : List (Nat × (Nat × Th)) → Bool
  | [] => false
  | (_, (_, .deep _ _ _ (some h))) :: l => Nat.beq h.o o || isHole o l
  | (_, (_, .dmap _ _ _ _ _ (some h))) :: l => Nat.beq h.2 o || isHole o l
  | _ :: l => isHole o l
def argHole (st : State) (x : Operand) : Bool :=
  match rdo st.slots x with
  | some (.val _ (.own o)) => isHole o st.objs
  | _ => false
def argsHole (st : State) : Op → Bool
  | .call c => c.args.toList.any (argHole st)
  | _ => false

noncomputable def step0 {R : Type} {P : Program} (E : Env P) (dst : Option Nat) (op : Op) (st : State) (k : State → Option R) : Option R :=
  match frzAll st.objs (needsE E (rdo st.slots) st.objs op) with
  | some objs1 => match nilOp E.T (rdo st.slots) (find objs1) op with
    | some (b, m) => match dst with
      | some d => if Nat.beq m 0 = true then Both (k (State.apply { st with objs := objs1 } (some d) { dst := dBool true })) (k (State.apply { st with objs := objs1 } (some d) { dst := dBool false }))
          else k (State.apply { st with objs := objs1 } (some d) { dst := dBool b })
      | none => none
    | none => bif fnB dst op then opE E (rdo st.slots) objs1 st.nxt dst op (fun e => k (State.apply { st with objs := objs1 } dst e)) else none
  | none => none

noncomputable def step1 {R : Type} {P : Program} (E : Env P) (dst : Option Nat) (op : Op) (st : State) (k : State → Option R) : Option R :=
  match E.deep && callB op && !argsHole st op with
  | true => step0 E dst op (mendS st) k
  | false => step0 E dst op st k

def gslot (all : Array Oper) (j : Nat) : Option Nat := (all[j]?).bind (·.dst)
def State.put (st : State) (dst : Option Nat) (d : Desc) : State :=
  match dst with
  | some t => { st with slots := (t, d) :: st.slots }
  | none => st
def kdel (dst : Option Nat) (kn : List (Nat × Bool)) : List (Nat × Bool) :=
  match dst with
  | some d => del [d] kn
  | none => kn

noncomputable def runs {R : Type} {P : Program} (E : Env P) (nt : Nat) (all : Array Oper) : List Oper → List (Nat × Bool) → State → (State → Option R) → Option R
  | [], _, st, k => k st
  | o :: os, kn, st, k => bif dstOK nt o.dst then (match o.guard with
    | none => step1 E o.dst o.op st (fun st' => runs E nt all os (kdel o.dst kn) st' k)
    | some (j, b) => match gslot all j with
      | none => none
      | some g => bif Nat.blt g nt then (match find kn g with
        | some v => bif (bif v then b else !b) then step1 E o.dst o.op st (fun st' => runs E nt all os (kdel o.dst kn) st' k) else runs E nt all os (kdel o.dst kn) (st.put o.dst .undef) k
        | none => match find st.slots g with
          | some .undef => runs E nt all os (kdel o.dst kn) (st.put o.dst .undef) k
          | some d => match asBool d with
            | some t => if t = true then
                (bif b then step1 E o.dst o.op (st.put (some g) (dBool true)) (fun st' => runs E nt all os (kdel o.dst ((g, true) :: kn)) st' k)
                  else runs E nt all os (kdel o.dst ((g, true) :: kn)) ((st.put (some g) (dBool true)).put o.dst .undef) k)
              else
                (bif b then runs E nt all os (kdel o.dst ((g, false) :: kn)) ((st.put (some g) (dBool false)).put o.dst .undef) k
                  else step1 E o.dst o.op (st.put (some g) (dBool false)) (fun st' => runs E nt all os (kdel o.dst ((g, false) :: kn)) st' k))
            | none => none
          | none => none) else none) else none

section
variable {P : Program} {nt : Nat} {ops : Array Oper} {K : (Nat → Value) → World → Prop} {rest : List Oper} {R : Type}
variable {ρ : Nat → Value} {w w0 : World} {H : Hist} {F F0 G : Nat → Prop}

abbrev UU (G : Nat → Prop) (w0 : World) : Nat → Prop := fun k => w0.heap.size ≤ k ∨ G k

theorem Glob.evo {H' : Hist} {F' : Nat → Prop} {w' : World} {g : Nat → Prop} (hg : Glob G w0 F0 w F) (he : Evo H F w H' F' w' g) (hu : ∀ k, g k → UU G w0 k) : Glob G w0 F0 w' F' := by
  have hsz := hg.ext.size
  refine ⟨⟨he.ext.os.trans hg.ext.os, he.ext.tape.trans hg.ext.tape, he.ext.output.trans hg.ext.output, Nat.le_trans hsz he.ext.size, fun k hk hn => ?_⟩, fun b hb => he.le b (hg.le b hb), fun b hb => ?_⟩
  · rw [he.ext.block k (by omega) fun h => ?_]
    · exact hg.ext.block k hk hn
    · rcases hu k h with h1 | h1
      · omega
      · exact hn h1
  · rcases he.grow b hb with h1 | h1 | h1
    · exact hg.new b h1
    · exact .inr (.inl (Nat.le_trans hsz h1))
    · exact .inr (hu b h1)

/-- What the ways on from here may count on. -/
structure Here (G : Nat → Prop) (w0 : World) (F0 : Nat → Prop) (H : Hist) (F : Nat → Prop) (w : World) (ρ : Nat → Value) (st : State) : Prop where
  sat : Sat (UU G w0) H F w ρ st
  glob : Glob G w0 F0 w F

theorem Keeps.ofEvo {H' : Hist} {F' : Nat → Prop} {w' : World} {g : Nat → Prop} (he : Evo H F w H' F' w' g) (hF : ∀ b, F b → b < w.heap.size) (hg : ∀ k, g k → ¬ F k) : Keeps H F w H' F' w' := ⟨he.hist, he.step hF hg⟩

theorem Here.frz {st : State} {os : List Nat} {objs1 : List (Nat × (Nat × Th))} (h : Here G w0 F0 H F w ρ st) (hf : frzAll st.objs os = some objs1) :
    ∃ F', Here G w0 F0 H F' w ρ { st with objs := objs1 } ∧ Keeps H F w H F' w := by
  obtain ⟨F', a1, a2, a3⟩ := frzAll_ok hf h.sat.ob
  have hst : Step F w F' w := fun b hb => ⟨a2 b hb, rfl⟩
  refine ⟨F', ⟨⟨fun t d hd => (h.sat.slot t d hd).keep (Hist.le.refl H) hst, a1, h.sat.all⟩, ⟨h.glob.ext, fun b hb => a2 b (h.glob.le b hb), fun b hb => ?_⟩⟩, ⟨Hist.le.refl H, hst⟩⟩
  rcases a3 b hb with h1 | h1
  · exact h.glob.new b h1
  · exact .inr (h.sat.ob.eaten_use b h1)

theorem run_nilcmp {P : Program} {ρ : Nat → Value} {w : World} {o : BinOp} (hop : o = .eql ∨ o = .neq) {t u e : TypeId} {x y : Operand} {d : Nat} {ty : TypeId} {pos : String} {aft : Array Edge} (hu : P.underlying t = some (.slice e)) {A : Option Addr} {m c : Nat} (hx : ev ρ x = .slice A m c) (hy : ev ρ y = .slice none 0 0) :
    (execOp (ev ρ) ⟨some d, .binOp o t x y u, ty, pos, aft, none⟩).run P w = .ok (.value (.bool (bif decide (o = .eql) then A.isNone else !A.isNone))) w := by
  have hm : Op.maxDepth = 9999 + 1 := rfl
  have he : (Op.equal t (.slice A m c) (.slice none 0 0)).run P w = .ok A.isNone w := by
    unfold Op.equal
    rw [hm]
    unfold Op.equalIn
    rw [Sem.run_bind, run_underlying hu]
    cases A <;> rfl
  rcases hop with rfl | rfl
  · simp [execOp, eqGuard, binOp, hx, hy, he]
  · simp [execOp, eqGuard, binOp, hx, hy, he]

theorem nilOp_ok {P : Program} (T : Tabs P) {U : Nat → Prop} {H : Hist} {F : Nat → Prop} {w : World} {ρ : Nat → Value} {n : Nat} {ob : Nat → Option (Nat × Th)} {rd : Operand → Option Desc} (hrd : ∀ x d, rd x = some d → DescOK H F w d (ev ρ x)) (hs : ObSat U H F w ob n) {op : Op} {b : Bool} {m : Nat} (h : nilOp T rd ob op = some (b, m)) {d : Nat} {ty : TypeId} {pos : String} {aft : Array Edge} :
    ∃ r : Bool, (m ≠ 0 → r = b) ∧ (execOp (ev ρ) ⟨some d, op, ty, pos, aft, none⟩).run P w = .ok (.value (.bool r)) w := by
  have isn : ∀ {y : Operand}, isNilC y = true → ev ρ y = .slice none 0 0 := by
    intro y hy
    unfold isNilC at hy
    split at hy
    · rfl
    · cases hy
  have key : ∀ {k : SlK} {v : Value}, SlOK U H F w ob v k → ∀ m, (match k with | .read _ l => l.length = m | .own _ _ _ _ l => l.length = m | _ => False) → ∃ A n c, v = .slice A n c ∧ (m ≠ 0 → A.isNone = false) := by
    intro k v hk m hm
    cases k with
    | read r l =>
      obtain ⟨A, cap, hv, _, _, h3⟩ := hk
      simp only [List.cons.injEq, and_true] at hv
      refine ⟨A, _, cap, hv, fun h0 => ?_⟩
      obtain ⟨b, off, es, rfl, _⟩ := h3 0 (by dsimp only at hm; omega)
      rfl
    | own o s T r l =>
      obtain ⟨xs, hx, _⟩ := hk.2.2.2
      rcases hx.2 with ⟨rfl, h0⟩ | ⟨g, o0, cap, cur, rfl, _⟩
      · exact ⟨none, 0, 0, rfl, fun h => absurd (hm.symm.trans h0) h⟩
      · exact ⟨_, _, _, rfl, fun _ => rfl⟩
    | nil => exact hm.elim
    | view o s r m => exact hm.elim
    | deep => exact hm.elim
  unfold nilOp at h
  split at h
  case h_2 => cases h
  rename_i o t x y u
  split at h
  case h_3 => cases h
  all_goals
    obtain ⟨hy, h⟩ := bif_eq h
    split at h
    case h_2 => cases h
    rename_i e hu
    have hu := T.und_ok _ _ hu
    split at h
    case h_2 => cases h
    rename_i X hX
    split at h
    case h_3 => cases h
    all_goals
      rename_i hsl
      obtain ⟨rfl, rfl⟩ := Prod.mk.inj (Option.some.inj h)
      obtain ⟨A, n', c, hv, hA⟩ := key (asSl_ok hs hsl (hrd _ _ hX)) _ rfl
      refine ⟨_, fun h0 => ?_, run_nilcmp (by first | exact .inl rfl | exact .inr rfl) hu hv (isn hy)⟩
      rw [hA h0]
      rfl

theorem Here.mendAt {st : State} (h : Here G w0 F0 H F w ρ st) (o : Nat) : ∃ H' F', Here G w0 F0 H' F' w ρ (mendAt st o) ∧ Keeps H F w H' F' w := by
  unfold Go.Proofs.YtjeeligfdpociaaGreat.mendAt
  split
  · rename_i e he
    obtain ⟨H', F', hp⟩ := mendX_post h.sat.ob he
    have hs := h.sat.apply (d := none) hp
    exact ⟨H', F', ⟨hs, h.glob.evo hp.evo h.sat.ob.eaten_use⟩, Keeps.ofEvo hp.evo h.sat.ob.lt h.sat.ob.eaten_no⟩
  · exact ⟨H, F, h, Keeps.refl H F w⟩
theorem Here.mendL : {os : List Nat} → {st : State} → {H : Hist} → {F : Nat → Prop} → Here G w0 F0 H F w ρ st → ∃ H' F', Here G w0 F0 H' F' w ρ (mendL st os) ∧ Keeps H F w H' F' w
  | [], _, H, F, h => ⟨H, F, h, Keeps.refl H F w⟩
  | o :: os, st, H, F, h => by
    obtain ⟨H1, F1, h1, k1⟩ := h.mendAt o
    obtain ⟨H2, F2, h2, k2⟩ := Here.mendL (os := os) h1
    exact ⟨H2, F2, h2, k1.trans k2⟩
theorem Here.mendS {st : State} (h : Here G w0 F0 H F w ρ st) : ∃ H' F', Here G w0 F0 H' F' w ρ (mendS st) ∧ Keeps H F w H' F' w := by
  unfold Go.Proofs.YtjeeligfdpociaaGreat.mendS
  split
  case h_2 => exact ⟨H, F, h, Keeps.refl H F w⟩
  obtain ⟨H1, F1, h1, k1⟩ := h.mendL (os := st.objs.map (·.1))
  obtain ⟨H2, F2, h2, k2⟩ := h1.mendL (os := st.objs.map (·.1))
  exact ⟨H2, F2, h2, k1.trans k2⟩

theorem step0_ok {E : Env P} {dst : Option Nat} {op : Op} {ty : TypeId} {pos : String} {aft : Array Edge} {st : State} {k : State → Option R} {q : R} (h : step0 E dst op st k = some q) (hd : dstOK nt dst = true) (hh : Here G w0 F0 H F w ρ st)
    (hk : ∀ st' H' F' w' ρ', k st' = some q → Here G w0 F0 H' F' w' ρ' st' → Keeps H F w H' F' w' → (∀ t, dst ≠ some t → ρ' t = ρ t) → wpS P nt ops K rest ρ' w') : wpS P nt ops K (⟨dst, op, ty, pos, aft, none⟩ :: rest) ρ w := by
  unfold step0 at h
  split at h
  case h_2 => cases h
  rename_i objs1 hfz
  obtain ⟨F1, hh1, hk1⟩ := hh.frz hfz
  split at h
  · rename_i b m hn
    split at h
    case h_2 => cases h
    rename_i d
    obtain ⟨r, hr, hrun⟩ := nilOp_ok E.T (ρ := ρ) (d := d) (ty := ty) (pos := pos) (aft := aft) (fun x d hx => rdo_ok hh1.sat.ob.gl hh1.sat.slot x d hx) hh1.sat.ob hn
    have hkr : k (State.apply { st with objs := objs1 } (some d) { dst := dBool r }) = some q := by
      split at h
      · cases r with
        | true => exact both_l h
        | false => exact both_r h
      · rename_i h0
        rw [hr fun e => h0 (by rw [e]; rfl)]
        exact h
    have hsays : Says P (UU G w0) H F1 w ρ (find objs1) st.nxt ⟨some d, op, ty, pos, aft, none⟩ { dst := dBool r } := says_pure hh1.sat.ob hrun (ValOK.mkBool ..)
    refine wpS_runs hsays (fun d' hd' => by rw [hd'] at hd; exact hd) fun v w' ⟨H', F', hp⟩ => ?_
    have hs := hh1.sat.apply (d := some d) hp
    refine hk _ H' F' w' _ hkr ⟨hs, hh1.glob.evo hp.evo hh1.sat.ob.eaten_use⟩ (hk1.trans (Keeps.ofEvo hp.evo hh1.sat.ob.lt hh1.sat.ob.eaten_no)) fun t ht => ?_
    show upd ρ d v t = ρ t
    rw [upd_eq, if_neg (fun e => ht (by rw [e]))]
  obtain ⟨hfn, h'⟩ := bif_eq h
  clear h
  obtain ⟨e, he, hsays⟩ := opE_ok (ρ := ρ) (ty := ty) (pos := pos) (aft := aft) E (fun x d hx => rdo_ok hh1.sat.ob.gl hh1.sat.slot x d hx) (fun hn c hc => by subst hn; subst hc; exact hfn) h' hh1.sat.ob
  refine wpS_runs hsays (fun d hd' => by rw [hd'] at hd; exact hd) fun v w' ⟨H', F', hp⟩ => ?_
  have hs := hh1.sat.apply (d := dst) hp
  refine hk _ H' F' w' _ he ⟨hs, hh1.glob.evo hp.evo hh1.sat.ob.eaten_use⟩ (hk1.trans (Keeps.ofEvo hp.evo hh1.sat.ob.lt hh1.sat.ob.eaten_no)) fun t ht => ?_
  cases dst with
  | none => rfl
  | some d =>
    show upd ρ d v t = ρ t
    rw [upd_eq, if_neg (fun e => ht (by rw [e]))]

theorem step1_ok {E : Env P} {dst : Option Nat} {op : Op} {ty : TypeId} {pos : String} {aft : Array Edge} {st : State} {k : State → Option R} {q : R} (h : step1 E dst op st k = some q) (hd : dstOK nt dst = true) (hh : Here G w0 F0 H F w ρ st)
    (hk : ∀ st' H' F' w' ρ', k st' = some q → Here G w0 F0 H' F' w' ρ' st' → Keeps H F w H' F' w' → (∀ t, dst ≠ some t → ρ' t = ρ t) → wpS P nt ops K rest ρ' w') : wpS P nt ops K (⟨dst, op, ty, pos, aft, none⟩ :: rest) ρ w := by
  unfold step1 at h
  split at h
  · obtain ⟨H1, F1, h1, k1⟩ := hh.mendS
    exact step0_ok h hd h1 fun st' H' F' w' ρ' a b c d => hk st' H' F' w' ρ' a b (k1.trans c) d
  · exact step0_ok h hd hh hk

theorem Here.put {st : State} {dst : Option Nat} {d : Desc} {v : Value} (h : Here G w0 F0 H F w ρ st) (hd : DescOK H F w d v) : Here G w0 F0 H F w (updo ρ dst v) (st.put dst d) := by
  refine ⟨⟨fun t q hq => ?_, ?_, by cases dst <;> exact h.sat.all⟩, h.glob⟩
  · cases dst with
    | none => exact h.sat.slot t q hq
    | some s =>
      have hq' : find ((s, d) :: st.slots) t = some q := hq
      rw [find_cons] at hq'
      show DescOK H F w q (upd ρ s v t)
      rw [upd_eq]
      by_cases e : s = t
      · rw [if_pos e] at hq'
        rw [if_pos e.symm]
        obtain rfl := Option.some.inj hq'
        exact hd
      · rw [if_neg e] at hq'
        rw [if_neg (Ne.symm e)]
        exact h.sat.slot t q hq'
  · cases dst <;> exact h.sat.ob
/-- What is known of a slot. -/
theorem Here.lit {st : State} {g : Nat} {d : Desc} (h : Here G w0 F0 H F w ρ st) (hd : DescOK H F w d (ρ g)) : Here G w0 F0 H F w ρ (st.put (some g) d) := by
  refine ⟨⟨fun t q hq => ?_, h.sat.ob, h.sat.all⟩, h.glob⟩
  have hq' : find ((g, d) :: st.slots) t = some q := hq
  rw [find_cons] at hq'
  split at hq'
  · rename_i e
    subst e
    obtain rfl := Option.some.inj hq'
    exact hd
  · exact h.sat.slot t q hq'

def Knows (ρ : Nat → Value) (kn : List (Nat × Bool)) : Prop := ∀ g b, find kn g = some b → ρ g = .bool b

theorem Knows.del {ρ' : Nat → Value} {dst : Option Nat} {kn : List (Nat × Bool)} (h : Knows ρ kn) (hρ : ∀ t, dst ≠ some t → ρ' t = ρ t) : Knows ρ' (kdel dst kn) := by
  intro g b hg
  cases dst with
  | none => rw [hρ g (by simp)]; exact h g b hg
  | some d =>
    obtain ⟨h1, h2⟩ := find_del.1 hg
    rw [hρ g (fun e => h1 (by simp [Option.some.inj e]))]
    exact h g b h2
theorem Knows.cons {kn : List (Nat × Bool)} {g : Nat} {b : Bool} (h : Knows ρ kn) (hb : ρ g = .bool b) : Knows ρ ((g, b) :: kn) := by
  intro g' b' hg
  rw [find_cons] at hg
  split at hg
  · rename_i e; subst e; obtain rfl := Option.some.inj hg; exact hb
  · exact h g' b' hg

theorem updo_ne {dst : Option Nat} {v : Value} {t : Nat} (h : dst ≠ some t) : updo ρ dst v t = ρ t := by
  cases dst with
  | none => rfl
  | some d =>
    show upd ρ d v t = ρ t
    rw [upd_eq, if_neg (fun e => h (by rw [e]))]

theorem runs_ok {E : Env P} {q : R} : {l : List Oper} → {kn : List (Nat × Bool)} → {st : State} → {k : State → Option R} → {H : Hist} → {F : Nat → Prop} → {w : World} → {ρ : Nat → Value} → runs E nt ops l kn st k = some q → Knows ρ kn → Here G w0 F0 H F w ρ st →
    (∀ st' H' F' w' ρ', k st' = some q → Here G w0 F0 H' F' w' ρ' st' → Keeps H F w H' F' w' → (∀ t, (∀ o ∈ l, o.dst ≠ some t) → ρ' t = ρ t) → K ρ' w') → wpS P nt ops K l ρ w
  | [], kn, st, k, H, F, w, ρ, h, _, hh, hk => wpS_nil (hk st H F w ρ h hh (Keeps.refl H F w) fun _ _ => rfl)
  | o :: l, kn, st, k, H, F, w, ρ, h, hkn, hh, hk => by
    unfold runs at h
    obtain ⟨hd, h'⟩ := bif_eq h
    clear h
    have hdb : ∀ d, o.dst = some d → Nat.blt d nt = true := fun d e => by rw [e] at hd; exact hd
    -- carried out
    have on : ∀ {st1 : State} {kn1 : List (Nat × Bool)}, step1 E o.dst o.op st1 (fun st' => runs E nt ops l (kdel o.dst kn1) st' k) = some q → Knows ρ kn1 → Here G w0 F0 H F w ρ st1 → wpS P nt ops K (⟨o.dst, o.op, o.type, o.pos, o.after, none⟩ :: l) ρ w := by
      intro st1 kn1 hs hkn1 hh1
      refine step1_ok hs hd hh1 fun st' H' F' w' ρ' e1 e2 e3 e4 => ?_
      refine runs_ok e1 (hkn1.del e4) e2 fun st2 H2 F2 w2 ρ2 f1 f2 f3 f4 => ?_
      exact hk st2 H2 F2 w2 ρ2 f1 f2 (e3.trans f3) fun t ht => (f4 t fun o' ho' => ht o' (by simp [ho'])).trans (e4 t (ht o (by simp)))
    -- passed by
    have off : ∀ {st1 : State} {kn1 : List (Nat × Bool)}, runs E nt ops l (kdel o.dst kn1) (st1.put o.dst .undef) k = some q → Knows ρ kn1 → Here G w0 F0 H F w ρ st1 → wpS P nt ops K l (updo ρ o.dst undef) w := by
      intro st1 kn1 hs hkn1 hh1
      refine runs_ok hs (hkn1.del fun t ht => updo_ne ht) (hh1.put rfl) fun st2 H2 F2 w2 ρ2 f1 f2 f3 f4 => ?_
      exact hk st2 H2 F2 w2 ρ2 f1 f2 f3 fun t ht => (f4 t fun o' ho' => ht o' (by simp [ho'])).trans (updo_ne (ht o (by simp)))
    obtain ⟨dst, op, ty, pos, aft, guard⟩ := o
    simp only at h' on off hdb
    split at h'
    · exact on h' hkn hh
    · rename_i j b
      split at h'
      case h_1 => cases h'
      rename_i g hgs
      obtain ⟨hgn, h⟩ := bif_eq h'
      clear h'
      have wOn : ρ g = .bool b → wpS P nt ops K (⟨dst, op, ty, pos, aft, none⟩ :: l) ρ w → wpS P nt ops K (⟨dst, op, ty, pos, aft, some (j, b)⟩ :: l) ρ w := fun hb hw => wpS_on g hgs hgn hb hw
      have wOff : ∀ b', ρ g = .bool b' → b' ≠ b → wpS P nt ops K l (updo ρ dst undef) w → wpS P nt ops K (⟨dst, op, ty, pos, aft, some (j, b)⟩ :: l) ρ w := fun b' hb hne hw => by
        cases dst with
        | none => exact wpS_off_unit g hgs hgn hb hne hw
        | some d => exact wpS_off g hgs hgn hb hne (hdb d rfl) hw
      split at h
      · rename_i v hv
        have hgv := hkn g v hv
        cases hvb : (bif v then b else !b) with
        | true =>
          rw [hvb, cond_true] at h
          have : v = b := by cases v <;> cases b <;> simp_all
          subst this
          exact wOn hgv (on h hkn hh)
        | false =>
          rw [hvb, cond_false] at h
          have : v ≠ b := by intro e; subst e; cases v <;> simp_all
          exact wOff v hgv this (off h hkn hh)
      · split at h
        · rename_i hu
          have hgu : ρ g = undef := hh.sat.slot _ _ hu
          cases dst with
          | none => exact wpS_offu_unit g hgs hgn hgu (off h hkn hh)
          | some d => exact wpS_offu g hgs hgn hgu (hdb d rfl) (off h hkn hh)
        · rename_i d hd' 
          split at h
          case h_2 => cases h
          rename_i t ht
          have hgt := asBool_ok ht (hh.sat.slot _ _ hd')
          split at h
          · rename_i htt
            subst htt
            have hh1 : Here G w0 F0 H F w ρ (st.put (some g) (dBool true)) := hh.lit (by rw [hgt]; exact ValOK.mkBool ..)
            have hkn1 := hkn.cons hgt
            cases b with
            | true => rw [cond_true] at h; exact wOn hgt (on h hkn1 hh1)
            | false => rw [cond_false] at h; exact wOff true hgt (by simp) (off h hkn1 hh1)
          · rename_i htt
            have htt : t = false := by cases t <;> simp_all
            subst htt
            have hh1 : Here G w0 F0 H F w ρ (st.put (some g) (dBool false)) := hh.lit (by rw [hgt]; exact ValOK.mkBool ..)
            have hkn1 := hkn.cons hgt
            cases b with
            | true => rw [cond_true] at h; exact wOff false hgt (by simp) (off h hkn1 hh1)
            | false => rw [cond_false] at h; exact wOn hgt (on h hkn1 hh1)
        · cases h
end
end Go.Proofs.YtjeeligfdpociaaGreat
