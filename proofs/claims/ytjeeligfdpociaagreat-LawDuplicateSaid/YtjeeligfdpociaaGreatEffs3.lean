/- More rules: slices of the call's own, literals, slicing, operators. -/
import Derived.Test.YtjeeligfdpociaaGreatEffs2
namespace Go.Proofs.YtjeeligfdpociaaGreat
open Go Go.RowKit

section
variable {P : Program} {ρ : Nat → Value} {w w' : World} {H H' : Hist} {F F' : Nat → Prop} {U : Nat → Prop} {ob : Nat → Option (Nat × Th)} {n : Nat} {R : Type}
variable {op : Op} {ty : TypeId} {pos : String} {aft : Array Edge} {d : Nat}

theorem own_one {base : Nat} {T : TypeId} {r : Row} {v : Value} {l : List r.den} (h : Own base F w T r v l) : v.oneCell' = true := by
  obtain ⟨A, cap, rfl, _⟩ := h.reads
  rfl
theorem own_dst {H : Hist} {o : Nat} {v : Value} (h : H.val o = some v) (h1 : v.oneCell' = true) : DescOK H F w (.val false (.own o)) v := ⟨[v], ⟨v, h, h1, rfl⟩, rfl, fun _ => rfl⟩

/-- A new slice of the call's own. -/
theorem newown (hs : ObSat U H F w ob n) {e : TypeId} {r : Row} {v : Value} {l : List r.den} {eat : List Nat} (hext : Ext (eaten H ob eat) w w') (ho : Own 0 F w' e r v l) (hn : ∀ k, mine v k → eaten H ob eat k ∨ w.heap.size ≤ k) :
    PostE H F w ob n { dst := .val false (.own n), eat := eat, make := [(n, (n, .own e r l))] } v w' :=
  Post.new (v0 := v) hs rfl (own_one ho) hext ho.2 (fun k hk => ⟨ho.1 k hk, ho.lt k hk, (hn k hk).symm⟩) (own_dst (by simp [Hist.setVal]) (own_one ho))

theorem ext_alloc {g : Nat → Prop} (o : Obj) : Ext g w (w.alloc o) := ⟨rfl, rfl, rfl, by simp, fun k hk _ => Below.heap_alloc w _ k hk⟩

def mkC {α : Type} (a b : Int) (z : α) : Option (List α) := if 0 ≤ a ∧ a ≤ b ∧ b ≤ 4294967296 then some (List.replicate a.toNat z) else none

def sameOp : Operand → Operand → Bool
  | .tmp a, .tmp b => Nat.beq a b
  | .const (.int _ a), .const (.int _ b) => decide (a = b)
  | _, _ => false

theorem run_make0 {e t : TypeId} {r : Row} {a b : Int} (ht : P.underlying t = some (.slice e)) (hti : TI P e r) (hs : ObSat U H F w ob n) {ka kb : IntKind} {x y : Operand} (hx : ev ρ x = .int ka a) (hy : ev ρ y = .int kb b) (h0 : 0 ≤ a) (h1 : a ≤ b) (h2 : b ≤ 4294967296) :
    ∃ v w', (execOp (ev ρ) ⟨some d, .makeSlice t x y, ty, pos, aft, none⟩).run P w = .ok (.value v) w' ∧ (∀ g, Ext g w w') ∧ Own 0 F w' e r v (List.replicate a.toNat r.zero) ∧ ∀ k, mine v k → w.heap.size ≤ k := by
  obtain ⟨ti, z, hi, hz, hzr, hsz, hby⟩ := hti
  obtain ⟨ca, rfl⟩ := Int.eq_ofNat_of_zero_le h0
  obtain ⟨cb, rfl⟩ := Int.eq_ofNat_of_zero_le (Int.le_trans h0 h1)
  have hc : cb ≤ 4294967296 := by omega
  have hbb : ti.bytes * cb ≤ 281474976710656 := Nat.le_trans (Nat.mul_le_mul hby hc) (by omega)
  have hb' : (ti.bytes : Int) * (cb : Int) ≤ 281474976710656 := by
    have h : ((ti.bytes * cb : Nat) : Int) ≤ 281474976710656 := by omega
    rwa [Int.natCast_mul] at h
  have hrun := run_make (P := P) w t e ti z ht hi hz ka kb ca cb (by omega) (by omega) hb' (by omega)
  have hzl : z.cells = r.zeros.toArray := by rw [← hzr, Array.toArray_toList]
  have hzn : r.zeros.length = r.size := (Rep.zero F w r).length
  have hpos := r.size_pos
  simp only [Int.toNat_natCast] at hrun
  refine ⟨.slice (some ⟨w.heap.size, 0, none⟩) ca cb, w.alloc (.cells (madeCells z.cells (cb * ti.size)) e), by simp [execOp, hx, hy, hrun], fun _ => ext_alloc _, ⟨fun q hq => ?_, (madeCells z.cells (cb * ti.size)).toList.take (ca * r.size), ?_, ?_⟩, fun q hq => ?_⟩
  · simp only [mine, Value.ownBlock, Option.some.injEq] at hq
    intro e
    have := hs.lt _ e
    omega
  · have hle : ca * r.size ≤ cb * r.size := Nat.mul_le_mul_right _ (by omega)
    have hsz2 := size_madeCells z.cells (cb * ti.size)
    refine ownsQ.of ⟨by rw [List.length_take, Array.length_toList, hsz2, hsz, Nat.min_eq_left hle]; simp, .inr ⟨w.heap.size, cb, madeCells z.cells (cb * ti.size), by simp, Nat.zero_le _, heap_alloc_new w _, by simp; omega, by simp [maxLen]; omega, by rw [hsz2, hsz], by simp⟩⟩
  · intro i hlt
    simp only [Int.toNat_natCast, List.length_replicate] at hlt
    have hle : (i + 1) * r.size ≤ ca * r.size := Nat.mul_le_mul_right _ hlt
    rw [Nat.add_mul] at hle
    rw [List.drop_take, List.take_take, Nat.min_eq_left (by omega)]
    rw [hsz, hzl, ← hzn, made_seg _ _ _ (by omega) (by omega)]
    simpa using Rep.zero F _ r
  · simp only [mine, Value.ownBlock, Option.some.injEq] at hq
    omega
theorem make_own {e t : TypeId} {r : Row} {a b : Int} (ht : P.underlying t = some (.slice e)) (hti : TI P e r) (hs : ObSat U H F w ob n) {ka kb : IntKind} {x y : Operand} (hx : ev ρ x = .int ka a) (hy : ev ρ y = .int kb b) (h0 : 0 ≤ a) (h1 : a ≤ b) (h2 : b ≤ 4294967296) :
    Says P U H F w ρ ob n ⟨some d, .makeSlice t x y, ty, pos, aft, none⟩ { dst := .val false (.own n), make := [(n, (n, .own e r (List.replicate a.toNat r.zero)))] } := by
  obtain ⟨v, w', hrun, hext, hown, hnew⟩ := run_make0 (d := d) (ty := ty) (pos := pos) (aft := aft) ht hti hs hx hy h0 h1 h2
  exact RunsTo.val hrun (newown hs (hext _) hown fun q hq => .inr (hnew q hq))

def eMake (T : Tabs P) (n : Nat) (t : TypeId) (same : Bool) (a b : Int) (k : Eff → Option R) : Option R :=
  match find T.und t with
  | some (.slice e) => match find T.row e with
    | some r => (bif same then mkL a r.zero else mkC a b r.zero).bind fun l => k { dst := .val false (.own n), make := [(n, (n, .own e r l))] }
    | none => none
  | _ => none

theorem sameOp_ok {x y : Operand} (h : sameOp x y = true) {a b : Int} {ka kb : IntKind} (hx : ev ρ x = .int ka a) (hy : ev ρ y = .int kb b) : a = b := by
  unfold sameOp at h
  split at h
  · obtain rfl := beq_true h
    rw [hx] at hy
    cases hy; rfl
  · simp only [ev, Value.int.injEq] at hx hy
    have := of_decide_eq_true h
    omega
  · cases h

theorem eMake_ok (T : Tabs P) {t : TypeId} {a b : Int} {ka kb : IntKind} {x y : Operand} {k : Eff → Option R} {q : R} (h : eMake T n t (sameOp x y) a b k = some q) (hs : ObSat U H F w ob n) (hx : ev ρ x = .int ka a) (hy : ev ρ y = .int kb b) :
    ∃ e, k e = some q ∧ Says P U H F w ρ ob n ⟨some d, .makeSlice t x y, ty, pos, aft, none⟩ e := by
  unfold eMake at h
  split at h
  case h_2 => cases h
  rename_i e hu
  split at h
  case h_2 => cases h
  rename_i r hr
  obtain ⟨l, hl, hk⟩ := bind_some h
  have hti := T.row_ok _ _ hr
  have ht := T.und_ok _ _ hu
  cases hsm : sameOp x y with
  | true =>
    rw [hsm, cond_true] at hl
    unfold mkL at hl
    split at hl
    case isFalse => cases hl
    rename_i hc
    obtain rfl := Option.some.inj hl
    obtain rfl := sameOp_ok hsm hx hy
    exact ⟨_, hk, make_own ht hti hs hx hy hc.1 (Int.le_refl _) hc.2⟩
  | false =>
    rw [hsm, cond_false] at hl
    unfold mkC at hl
    split at hl
    case isFalse => cases hl
    rename_i hc
    obtain rfl := Option.some.inj hl
    exact ⟨_, hk, make_own ht hti hs hx hy hc.1 hc.2.1 hc.2.2⟩

/-! ## Slices read as lists of a row -/
def asL (ob : Nat → Option (Nat × Th)) (r : Row) (D : Desc) : Option (List r.den) :=
  match asSl ob D with
  | some (.read s l) => if h : s.beq r = true then some (castR (r := .slice s) (s := .slice r) (congrArg Row.slice (Row.eq_of_beq h)) l) else none
  | some (.own _ _ _ s l) => if h : s.beq r = true then some (castR (r := .slice s) (s := .slice r) (congrArg Row.slice (Row.eq_of_beq h)) l) else none
  | some .nil => some []
  | some (.view ..) => none
  | some (.deep ..) => none
  | none => none

theorem asL_ok (hs : ObSat U H F w ob n) {r : Row} {D : Desc} {l : List r.den} {v : Value} (h : asL ob r D = some l) (hd : DescOK H F w D v) : Reads F w r v l := by
  unfold asL at h
  split at h
  · rename_i s m hsl
    split at h
    case isFalse => cases h
    rename_i hb
    obtain rfl := Row.eq_of_beq hb
    obtain rfl := Option.some.inj h
    exact Rep.reads (asSl_ok hs hsl hd)
  · rename_i o s0 T s m hsl
    split at h
    case isFalse => cases h
    rename_i hb
    obtain rfl := Row.eq_of_beq hb
    obtain rfl := Option.some.inj h
    exact (asSl_ok hs hsl hd).2.2.reads
  · rename_i hsl
    obtain rfl := Option.some.inj h
    have : v = _ := asSl_ok hs hsl hd
    subst this
    exact (Rep.nil F w r).reads
  · cases h
  · cases h
  · cases h

def slLen : SlK → Int
  | .read _ l => (l.length : Int)
  | .own _ _ _ _ l => (l.length : Int)
  | .nil => 0
  | .view _ _ _ l => (l.length : Int)
  | .deep _ _ _ _ l _ => (l.length : Int)

theorem slLen_ok {v : Value} {k : SlK} (h : SlOK U H F w ob v k) : ∃ A m cap, v = .slice A m cap ∧ slLen k = (m : Int) := by
  cases k with
  | read r l =>
    obtain ⟨A, cap, e, _⟩ := Rep.slice_form h
    exact ⟨A, _, cap, e, rfl⟩
  | own o s T r l =>
    obtain ⟨A, cap, e, _⟩ := h.2.2.reads
    exact ⟨A, _, cap, e, rfl⟩
  | nil => exact ⟨none, 0, 0, h, rfl⟩
  | view o s r m =>
    obtain ⟨A, cap, T, l, a, b, _, _, h3, h4, rfl, rfl⟩ := h
    refine ⟨_, _, _, rfl, ?_⟩
    simp only [slLen, List.length_drop, List.length_take, Nat.min_eq_left h4]
  | deep o s T d l hh =>
    obtain ⟨lh, _, ⟨xs, hx2, _⟩, hll, _⟩ := h.2.2.ok
    rcases hx2.2 with ⟨hnil, h0⟩ | ⟨g, o0, cap, cur, hsl', _, _, _⟩
    · exact ⟨none, 0, 0, hnil, by simp only [slLen]; omega⟩
    · exact ⟨_, _, _, hsl', by simp only [slLen]; omega⟩

def eLen (T : Tabs P) (ob : Nat → Option (Nat × Th)) (t : TypeId) (D : Desc) : Option Desc :=
  match find T.und t with
  | some (.slice _) => match asSl ob D with
    | some k => some (dInt .i64 (slLen k))
    | none => none
  | some .str => match asStr D with
    | some s => some (dInt .i64 (s.size : Int))
    | none => none
  | _ => none

theorem eLen_ok (T : Tabs P) {t : TypeId} {D D' : Desc} {x : Operand} (h : eLen T ob t D = some D') (hs : ObSat U H F w ob n) (hx : DescOK H F w D (ev ρ x)) :
    Says P U H F w ρ ob n ⟨some d, .call { callee := .builtin .len, args := #[x], argTypes := #[t] }, ty, pos, aft, none⟩ { dst := D' } := by
  unfold eLen at h
  split at h
  · rename_i e hu
    split at h
    case h_2 => cases h
    rename_i k hk
    obtain rfl := Option.some.inj h
    obtain ⟨A, m, cap, e1, e2⟩ := slLen_ok (asSl_ok hs hk hx)
    rw [e2]
    exact says_Pure hs (pure_len rfl (T.und_ok _ _ hu) e1) (ValOK.mkInt ..)
  · rename_i hu
    split at h
    case h_2 => cases h
    rename_i s hk
    obtain rfl := Option.some.inj h
    exact says_Pure hs (pure_lens (T.und_ok _ _ hu) (asStr_ok hk hx)) (ValOK.mkInt ..)
  · cases h

/-- append(x, y...) -/
def eAppend (T : Tabs P) (ob : Nat → Option (Nat × Th)) (n : Nat) (t : TypeId) (X Y : Desc) (k : Eff → Option R) : Option R :=
  match find T.und t with
  | some (.slice e) => match find T.row e with
    | some r => match asL ob r Y with
      | some m => match asSl ob X with
        | some .nil => (appA ([] : List r.den) m).bind fun l => k { dst := .val false (.own n), make := [(n, (n, .own e r l))] }
        | some (.own o _ T0 s l0) => bif Nat.beq T0 e then
            (if h : s.beq r = true then (appA (castR (r := .slice s) (s := .slice r) (congrArg Row.slice (Row.eq_of_beq h)) l0) m).bind fun l => k { dst := .val false (.own n), eat := [o], make := [(n, (n, .own e r l))] } else none) else none
        | _ => none
      | none => none
    | none => none
  | _ => none

theorem eAppend_ok (T : Tabs P) {t : TypeId} {X Y : Desc} {x y : Operand} {k : Eff → Option R} {q : R} (h : eAppend T ob n t X Y k = some q) (hs : ObSat U H F w ob n) (hx : DescOK H F w X (ev ρ x)) (hy : DescOK H F w Y (ev ρ y)) :
    ∃ e, k e = some q ∧ Says P U H F w ρ ob n ⟨some d, .call { callee := .builtin .append, args := #[x, y], argTypes := #[t, t] }, ty, pos, aft, none⟩ e := by
  unfold eAppend at h
  split at h
  case h_2 => cases h
  rename_i e hu
  split at h
  case h_2 => cases h
  rename_i r hr
  obtain ⟨ti, z, h1, h2, h3, h4, h5⟩ := T.row_ok _ _ hr
  have ht := T.und_ok _ _ hu
  split at h
  case h_2 => cases h
  rename_i m hm
  have hrd := asL_ok hs hm hy
  have key : ∀ {l out : List r.den}, Own 0 F w e r (ev ρ x) l → appA l m = some out → ∃ v' w', (execOp (ev ρ) ⟨some d, .call { callee := .builtin .append, args := #[x, y], argTypes := #[t, t] }, ty, pos, aft, none⟩).run P w = .ok (.value v') w' ∧ Ext (mine (ev ρ x)) w w' ∧ Own 0 F w' e r v' out ∧ (∀ k, mine v' k → mine (ev ρ x) k ∨ w.heap.size ≤ k) := by
    intro l out ho ha
    obtain ⟨v', w', hrun, he, ho', hmm⟩ := run_append ty ht h1 h2 h3 h4 h5 ho hrd ha hs.lt (Nat.zero_le _)
    refine ⟨v', w', by simp [execOp, resolve, invoke, builtin, hrun], he, ho', fun k hk => ?_⟩
    rcases hmm with g | g
    · exact .inl (g ▸ hk)
    · rw [g] at hk; exact .inr (by omega)
  split at h
  · rename_i hsl
    obtain ⟨l, hl, hk⟩ := bind_some h
    have hv : ev ρ x = _ := asSl_ok hs hsl hx
    obtain ⟨v', w', hrun, he, ho', hn⟩ := key (by rw [hv]; exact Own.nil 0 F w e r) hl
    have no : ∀ k, ¬ mine (ev ρ x) k := fun k hk => by rw [hv] at hk; simp [mine, Value.ownBlock] at hk
    exact ⟨_, hk, RunsTo.val hrun (newown hs ⟨he.os, he.tape, he.output, he.size, fun k hk _ => he.block k hk (no k)⟩ ho' fun k hk => (hn k hk).imp (fun h => absurd h (no k)) id)⟩
  · rename_i o s0 T0 s l0 hsl
    obtain ⟨hb, h⟩ := bif_eq h
    obtain rfl := beq_true hb
    split at h
    case isFalse => cases h
    rename_i hbeq
    obtain rfl := Row.eq_of_beq hbeq
    obtain ⟨l, hl, hk⟩ := bind_some h
    obtain ⟨hv, hob, hown⟩ := asSl_ok hs hsl hx
    obtain ⟨v', w', hrun, he, ho', hn⟩ := key hown hl
    have heat : ∀ k, mine (ev ρ x) k → eaten H ob [o] k := fun k hk => ⟨o, by simp, _, _, _, hob, hv, hk⟩
    exact ⟨_, hk, RunsTo.val hrun (newown hs ⟨he.os, he.tape, he.output, he.size, fun k hk hno => he.block k hk fun hm => hno (heat k hm)⟩ ho' fun k hk => (hn k hk).imp (heat k) id)⟩
  · cases h

/-! ## Literals -/
def flats (ob : Nat → Option (Nat × Th)) (r : Row) : List Desc → Option (List r.den)
  | [] => some []
  | .val _ u :: l => match flat ob r u with
    | some x => match flats ob r l with
      | some xs => some (x :: xs)
      | none => none
    | none => none
  | _ :: _ => none

def descs (rd : Operand → Option Desc) : List Operand → Option (List Desc)
  | [] => some []
  | x :: xs => match rd x with
    | some d => match descs rd xs with
      | some ds => some (d :: ds)
      | none => none
    | none => none

def DescsOK (H : Hist) (F : Nat → Prop) (w : World) : List Desc → List Value → Prop
  | [], vs => vs = []
  | d :: ds, vs => ∃ v us, vs = v :: us ∧ DescOK H F w d v ∧ DescsOK H F w ds us

theorem descs_ok {rd : Operand → Option Desc} (h : ∀ x d, rd x = some d → DescOK H F w d (ev ρ x)) : {xs : List Operand} → {ds : List Desc} → descs rd xs = some ds → DescsOK H F w ds (xs.map (ev ρ))
  | [], ds, e => by obtain rfl := Option.some.inj e; rfl
  | x :: xs, ds, e => by
    unfold descs at e
    cases h1 : rd x with
    | none => rw [h1] at e; cases e
    | some d =>
      cases h2 : descs rd xs with
      | none => simp only [h1, h2] at e; cases e
      | some ds' =>
        simp only [h1, h2, Option.some.injEq] at e
        subst e
        exact ⟨_, _, rfl, h _ _ h1, descs_ok h h2⟩

theorem flats_ok (hs : ObSat U H F w ob n) {r : Row} : {ds : List Desc} → {l : List r.den} → {vs : List Value} → flats ob r ds = some l → DescsOK H F w ds vs → Lits F w r vs l
  | [], l, vs, e, h => by
    obtain rfl := Option.some.inj e
    rw [show vs = [] from h]
    exact .nil
  | .val _ u :: ds, l, vs, e, h => by
    obtain ⟨v, us, rfl, h1, h2⟩ := h
    unfold flats at e
    cases hf : flat ob r u with
    | none => rw [hf] at e; cases e
    | some x =>
      cases hg : flats ob r ds with
      | none => simp only [hf, hg] at e; cases e
      | some xs =>
        simp only [hf, hg, Option.some.injEq] at e
        subst e
        obtain ⟨cs, hcs, hve⟩ := ValOK.cells h1
        exact .cons hve (flat_ok hs hf hcs) (flats_ok hs hg h2)
  | .dead :: _, _, _, e, _ => by cases e
  | .undef :: _, _, _, e, _ => by cases e
  | .ptr .. :: _, _, _, e, _ => by cases e
  | .at .. :: _, _, _, e, _ => by cases e
  | .elem .. :: _, _, _, e, _ => by cases e
  | .tup _ :: _, _, _, e, _ => by cases e
  | .dlm .. :: _, _, _, e, _ => by cases e

/-- The run of a slice literal. -/
theorem run_build0 {e t : TypeId} {r : Row} {xs : List Operand} {l : List r.den} {parts : Array (Nat × Operand)} (ht : P.underlying t = some (.slice e)) (hti : TI P e r) (hparts : parts = ((xs.zipIdx).map fun p => (p.2, p.1)).toArray) (hsm : xs.length * r.size ≤ 16777216)
    (hl : Lits F w r (xs.map (ev ρ)) l) (hs : ObSat U H F w ob n) :
    ∃ v w', (execOp (ev ρ) ⟨some d, .buildSlice t xs.length parts, ty, pos, aft, none⟩).run P w = .ok (.value v) w' ∧ (∀ g, Ext g w w') ∧ Own 0 F w' e r v l ∧ ∀ k, mine v k → w.heap.size ≤ k := by
  obtain ⟨ti, z, h1, h2, h3, h4, h5⟩ := hti
  have hvl : (xs.map (ev ρ)).length = xs.length := by simp
  have hll := hl.length
  have hpos := r.size_pos
  have hzs : z.cells.size = r.size := by rw [← (Rep.zero F w r).length, ← h3]; simp
  have hmap : (parts.map fun (i, q) => (i, ev ρ q)).toList = ((xs.map (ev ρ)).zipIdx).map fun p => (p.2, p.1) := by
    subst hparts
    simp [List.zipIdx_map, Function.comp_def]
  generalize hm : xs.length = m at *
  generalize xs.map (ev ρ) = vs at *
  have key : ∀ zz : Array Value, zz.size = m * r.size → ∃ xs' : List Value, Instr.fill (fun i => some (i * r.size, r.size)) zz ((vs.zipIdx).map fun p => (p.2, p.1)) = some xs'.toArray ∧ xs'.length = l.length * r.size ∧ ∀ i (hi : i < l.length), Rep F w r ((xs'.drop (i * r.size)).take r.size) l[i] := by
    intro zz hzz
    obtain ⟨xs', a1, a2, a3⟩ := hl.fill 0 [] zz.toList (by simp) (by rw [Array.length_toList, hzz, hvl])
    exact ⟨xs', by simpa using a1, a2, a3⟩
  have hrun : ∃ xs' : List Value, (execOp (ev ρ) ⟨some d, .buildSlice t m parts, ty, pos, aft, none⟩).run P w = .ok (.value (.slice (some ⟨w.heap.size, 0, none⟩) m m)) (w.alloc (.cells xs'.toArray e)) ∧ xs'.length = l.length * r.size ∧ ∀ i (hi : i < l.length), Rep F w r ((xs'.drop (i * r.size)).take r.size) l[i] := by
    by_cases h0 : m * r.size = 0
    · obtain ⟨xs', a1, a2, a3⟩ := key #[] (by simp [h0])
      refine ⟨xs', ?_, a2, a3⟩
      simp only [execOp, Instr.buildSlice, Sem.run_bind, run_underlying ht, Result.andThen_ok]
      rw [hmap]
      have hr0 : Array.range 0 = (#[] : Array Nat) := by rfl
      simp [sizeOf, typeInfo, h1, h4, h0, newRow, hr0, a1]
    · obtain ⟨xs', a1, a2, a3⟩ := key ((Array.range (m * r.size)).map (z.cells[· % z.cells.size]!)) (by simp)
      refine ⟨xs', ?_, a2, a3⟩
      simp only [execOp, Instr.buildSlice, Sem.run_bind, run_underlying ht, Result.andThen_ok]
      rw [hmap]
      simp [sizeOf, typeInfo, h1, h4, h0, zeroValue, h2, newRow, a1, show ¬ (16777216 < m * r.size) from by omega]
  obtain ⟨xs', hrun, a2, a3⟩ := hrun
  have hml : m = l.length := by omega
  have hmle : m ≤ 16777216 := Nat.le_trans (Nat.le_mul_of_pos_right m hpos) hsm
  refine ⟨_, _, hrun, fun g => ext_alloc _, ⟨fun k hk => ?_, xs', ?_, fun i hi => (a3 i hi).step (Step.alloc hs.lt _)⟩, fun k hk => ?_⟩
  · simp only [mine, Value.ownBlock, Option.some.injEq] at hk
    intro e
    have := hs.lt _ e
    omega
  · have := World.ownsRow_lit (base := 0) (e := e) (size := r.size) w xs'.toArray m (Nat.zero_le _) (by simp [maxLen]; omega) (by simp [a2, hml])
    rw [hml] at this ⊢
    simpa using ownsQ.of this
  · simp only [mine, Value.ownBlock, Option.some.injEq] at hk
    omega

theorem run_build {e t : TypeId} {r : Row} {xs : List Operand} {l : List r.den} {parts : Array (Nat × Operand)} (ht : P.underlying t = some (.slice e)) (hti : TI P e r) (hparts : parts = ((xs.zipIdx).map fun p => (p.2, p.1)).toArray) (hsm : xs.length * r.size ≤ 16777216)
    (hl : Lits F w r (xs.map (ev ρ)) l) (hs : ObSat U H F w ob n) :
    Says P U H F w ρ ob n ⟨some d, .buildSlice t xs.length parts, ty, pos, aft, none⟩ { dst := .val false (.own n), make := [(n, (n, .own e r l))] } := by
  obtain ⟨v, w', h1, h2, h3, h4⟩ := run_build0 (d := d) (ty := ty) (pos := pos) (aft := aft) ht hti hparts hsm hl hs
  exact RunsTo.val h1 (newown hs (h2 _) h3 fun k hk => .inr (h4 k hk))

def idxOK : Nat → List (Nat × Operand) → Bool
  | _, [] => true
  | k, p :: l => Nat.beq p.1 k && idxOK (k + 1) l

theorem idxOK_ok : {k : Nat} → {l : List (Nat × Operand)} → idxOK k l = true → l = ((l.map (·.2)).zipIdx k).map fun p => (p.2, p.1)
  | _, [], _ => rfl
  | k, p :: l, h => by
    obtain ⟨h1, h2⟩ := and2 h
    have h1 := beq_true h1
    have ih := idxOK_ok h2
    obtain ⟨a, b⟩ := p
    subst h1
    rw [List.map_cons, List.zipIdx_cons, List.map_cons, ← ih]

def eBuildSlice (T : Tabs P) (rd : Operand → Option Desc) (ob : Nat → Option (Nat × Th)) (n : Nat) (t : TypeId) (m : Nat) (parts : Array (Nat × Operand)) (k : Eff → Option R) : Option R :=
  match find T.und t with
  | some (.slice e) => match find T.row e with
    | some r => bif idxOK 0 parts.toList && Nat.beq m parts.toList.length && Nat.ble (m * r.size) 16777216 then
        (match descs rd (parts.toList.map (·.2)) with
        | some ds => match flats ob r ds with
          | some l => k { dst := .val false (.own n), make := [(n, (n, .own e r l))] }
          | none => none
        | none => none) else none
    | none => none
  | _ => none

theorem eBuildSlice_ok (T : Tabs P) {rd : Operand → Option Desc} (hrd : ∀ x d, rd x = some d → DescOK H F w d (ev ρ x)) {t : TypeId} {m : Nat} {parts : Array (Nat × Operand)} {k : Eff → Option R} {q : R} (h : eBuildSlice T rd ob n t m parts k = some q) (hs : ObSat U H F w ob n) :
    ∃ e, k e = some q ∧ Says P U H F w ρ ob n ⟨some d, .buildSlice t m parts, ty, pos, aft, none⟩ e := by
  unfold eBuildSlice at h
  split at h
  case h_2 => cases h
  rename_i e hu
  split at h
  case h_2 => cases h
  rename_i r hr
  obtain ⟨h1, h⟩ := bif_eq h
  obtain ⟨h1, h3⟩ := and2 h1
  obtain ⟨h1, h2⟩ := and2 h1
  have h2 := beq_true h2
  have h3 : m * r.size ≤ 16777216 := by simpa using h3
  split at h
  case h_2 => cases h
  rename_i ds hds
  split at h
  case h_2 => cases h
  rename_i l hl
  have hlits := flats_ok hs hl (descs_ok hrd hds)
  have hp : parts = (((parts.toList.map (·.2)).zipIdx).map fun p => (p.2, p.1)).toArray := by
    rw [← idxOK_ok h1, Array.toArray_toList]
  have hm : m = (parts.toList.map (·.2)).length := by simpa using h2
  refine ⟨_, h, ?_⟩
  have := run_build (d := d) (ty := ty) (pos := pos) (aft := aft) (T.und_ok _ _ hu) (T.row_ok _ _ hr) hp (by rw [← hm]; exact h3) hlits hs
  rw [← hm] at this
  exact this

/-! ## Struct literals -/
def fillT {P : Program} (T : Tabs P) (fs : List (TypeId × Nat)) : Tree → List (Nat × Desc) → Option Tree
  | t, [] => some t
  | t, (f, .val _ u) :: l => match t.get (fpath fs.length f) with
    | some (s, off) => match fs[f]? with
      | some (ft, off') => bif Nat.beq off off' && Nat.beq u.size s.size && (match find T.row ft with | some r => Nat.beq r.size u.size | none => false) then
          (match t.put (fpath fs.length f) u with
          | some t' => fillT T fs t' l
          | none => none) else none
      | none => none
    | none => none
  | _, _ :: _ => none

/-- The places of the fields, by their sizes. -/
def sizesOK (T : Tabs P) : List (TypeId × Nat) → Bool
  | [] => true
  | p :: fs => (match find T.row p.1 with | some _ => true | none => false) && sizesOK T fs

def place (T : Tabs P) (fs : List (TypeId × Nat)) (i : Nat) : Option (Nat × Nat) :=
  match fs[i]? with
  | some (ft, off) => match find T.row ft with
    | some r => some (off, r.size)
    | none => none
  | none => none

theorem places_run (T : Tabs P) : {l : List Field} → {fs : List (TypeId × Nat)} → l.map (fun f => (f.type, f.offset)) = fs → sizesOK T fs = true →
    ∃ pl : List (Nat × Nat), (l.mapM fun (f : Field) => (do pure (f.offset, ← sizeOf f.type) : Sem (Nat × Nat))).run P w = .ok pl w ∧ ∀ i, pl[i]? = place T fs i
  | [], fs, h, _ => by
    subst h
    exact ⟨[], by simp, fun i => by simp [place]⟩
  | f :: l, fs, h, hz => by
    subst h
    obtain ⟨h1, h2⟩ := and2 hz
    obtain ⟨pl, hp1, hp2⟩ := places_run T (l := l) rfl h2
    cases hr : find T.row f.type with
    | none => rw [hr] at h1; cases h1
    | some r =>
      obtain ⟨ti, z, g1, _, _, g4, _⟩ := T.row_ok _ _ hr
      refine ⟨(f.offset, r.size) :: pl, ?_, fun i => ?_⟩
      · have hz1 : (sizeOf f.type).run P w = .ok r.size w := by simp [sizeOf, typeInfo, g1, g4]
        rw [List.mapM_cons]
        simp only [Sem.run_bind, hz1, Sem.run_pure, Result.andThen_ok, hp1]
      · cases i with
        | zero => simp [place, hr]
        | succ i => simpa [place] using hp2 i
end
end Go.Proofs.YtjeeligfdpociaaGreat
