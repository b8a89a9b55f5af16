/- The rules of the operations, in terms of symbolic states. -/
/- More rules: stores, new objects, literals, append. -/
import Derived.Test.YtjeeligfdpociaaGreatPath
namespace Go.Proofs.YtjeeligfdpociaaGreat
open Go Go.RowKit

section
variable {P : Program} {ρ : Nat → Value} {w w' : World} {H H' : Hist} {F F' : Nat → Prop} {U : Nat → Prop} {ob : Nat → Option (Nat × Th)} {n : Nat} {R : Type}
variable {op : Op} {ty : TypeId} {pos : String} {aft : Array Edge} {d : Nat}

theorem ObSat.box (hs : ObSat U H F w ob n) {o s : Nat} {T : TypeId} {t : Tree} (ho : ob o = some (s, .box T t)) {b : Nat} (hb : H.val o = some (.pointer (some ⟨b, 0, none⟩))) :
    ∃ es, w.heap[b]? = some (.cells es.toArray T (0, 0)) ∧ Holds H F w t es := by
  obtain ⟨v, hv, hi⟩ := hs.obj _ _ _ ho
  rw [hb] at hv
  obtain rfl := Option.some.inj hv
  obtain ⟨b', es, e, h1, h2⟩ := hi.ok
  simp only [Value.pointer.injEq, Option.some.injEq, Addr.mk.injEq, and_true] at e
  subst e
  exact ⟨es, h1, h2⟩

theorem ObSat.own (hs : ObSat U H F w ob n) {o s : Nat} {T : TypeId} {r : Row} {l : List r.den} (ho : ob o = some (s, .own T r l)) {v : Value} (hv : H.val o = some v) : Own 0 F w T r v l := by
  obtain ⟨v', hv', hi⟩ := hs.obj _ _ _ ho
  rw [hv] at hv'
  obtain rfl := Option.some.inj hv'
  exact ⟨hi.no, hi.ok⟩

/-! ## Fields and elements -/
theorem field_of {fs : List (TypeId × Nat)} {arr : Array Field} (ha : arr.toList.map (fun f => (f.type, f.offset)) = fs) {f : Nat} {ft : TypeId} {off : Nat} (hf : fs[f]? = some (ft, off)) : ∃ fd, arr[f]? = some fd ∧ fd.type = ft ∧ fd.offset = off := by
  subst ha
  rw [List.getElem?_map] at hf
  cases hq : arr.toList[f]? with
  | none => rw [hq] at hf; cases hf
  | some fd =>
    rw [hq] at hf
    simp only [Option.map_some, Option.some.injEq, Prod.mk.injEq] at hf
    exact ⟨fd, by rw [← Array.getElem?_toList]; exact hq, hf.1, hf.2⟩

def sub (r : Row) (x : r.den) (p : List Bool) : Option ((s : Row) × s.den × Nat) :=
  match Tree.get (.leaf r x) p with
  | some (.leaf s y, off) => some ⟨s, y, off⟩
  | _ => none

theorem sub_at {r s : Row} {x : r.den} {y : s.den} {p : List Bool} {off b k : Nat} (h : sub r x p = some ⟨s, y, off⟩) (ha : At F w r b k x) : At F w s b (k + off) y := by
  unfold sub at h
  split at h
  · rename_i s' y' off' hg
    simp only [Option.some.injEq, Sigma.mk.injEq] at h
    obtain ⟨rfl, h⟩ := h
    obtain ⟨rfl, rfl⟩ := Prod.mk.inj (eq_of_heq h)
    obtain ⟨es, hl, hc, hr⟩ := ha
    obtain ⟨g1, g2⟩ := Holds.get (H := ⟨fun _ => none, fun _ => none, fun _ _ => False⟩) (F := F) (w := w) (cs := es) hg hr
    have g1' : Rep F w s' ((es.drop off').take s'.size) y' := g1
    refine ⟨_, g1'.length, fun j u hu => ?_, g1'⟩
    rw [List.getElem?_take] at hu
    split at hu
    · rw [List.getElem?_drop] at hu
      rw [Nat.add_assoc]
      exact hc _ u hu
    · cases hu
  · cases h

def eField (T : Tabs P) (t : TypeId) (f : Nat) (D : Desc) : Option Desc :=
  match find T.und t with
  | some (.struct fs) => match fs[f]? with
    | some (ft, off) => match find T.row ft with
      | some _ => match D with
        | .ptr o p k => some (.ptr o (p ++ fpath fs.length f) (k + off))
        | .at r x => match sub r x (fpath fs.length f) with
          | some ⟨s, y, off'⟩ => bif Nat.beq off' off then some (.at s y) else none
          | none => none
        | .elem o s r i x p k => some (.elem o s r i x (p ++ fpath fs.length f) (k + off))
        | .dlm o d i p k => some (.dlm o d i (p ++ fpath fs.length f) (k + off))
        | _ => none
      | none => none
    | none => none
  | _ => none

theorem beq_true {m k : Nat} (h : Nat.beq m k = true) : m = k := Nat.eq_of_beq_eq_true h

theorem bif_some {α : Type} {b : Bool} {x : α} {y : α} (h : (bif b then some x else none) = some y) : b = true ∧ x = y := by
  cases b with
  | true => exact ⟨rfl, Option.some.inj h⟩
  | false => cases h

theorem eField_ok (T : Tabs P) {t : TypeId} {f : Nat} {D D' : Desc} {x : Operand} (h : eField T t f D = some D') (hs : ObSat U H F w ob n) (hx : DescOK H F w D (ev ρ x)) :
    Says P U H F w ρ ob n ⟨some d, .fieldAddr t x f, ty, pos, aft, none⟩ { dst := D' } := by
  unfold eField at h
  split at h
  case h_2 => cases h
  rename_i fs hu
  obtain ⟨arr, hu1, hu2⟩ := T.und_ok _ _ hu
  split at h
  case h_2 => cases h
  rename_i ft off hf
  obtain ⟨fd, hfd, rfl, rfl⟩ := field_of hu2 hf
  split at h
  case h_2 => cases h
  rename_i r' hr'
  have hti := T.row_ok _ _ hr'
  split at h
  · obtain rfl := Option.some.inj h
    obtain ⟨b, h1, h2⟩ := hx
    exact says_Pure hs (pure_fieldT (r := r') fd.offset hu1 hfd hti rfl h2) ⟨b, h1, rfl⟩
  · split at h
    · rename_i s y off' hsub
      obtain ⟨h1, rfl⟩ := bif_some h
      obtain rfl := beq_true h1
      obtain ⟨b, k, h2, h3, h4⟩ := hx
      exact says_Pure hs (pure_fieldT (r := r') fd.offset hu1 hfd hti rfl h2) ⟨b, _, rfl, h3, sub_at hsub h4⟩
    · cases h
  · obtain rfl := Option.some.inj h
    obtain ⟨g, o0, q, T', m, cap, l, h1, h2, h3, h4, h5⟩ := hx
    exact says_Pure hs (pure_fieldT (r := r') fd.offset hu1 hfd hti rfl h5) ⟨g, o0, q, T', m, cap, l, h1, h2, h3, h4, by rw [Nat.add_assoc]⟩
  · obtain rfl := Option.some.inj h
    obtain ⟨g, o0, q, m, cap, h1, h2, h5⟩ := hx
    exact says_Pure hs (pure_fieldT (r := r') fd.offset hu1 hfd hti rfl h5) ⟨g, o0, q, m, cap, h1, h2, by rw [Nat.add_assoc]⟩
  · cases h

/-- An element of a slice that is read. -/
theorem Rep.elemAt {r : Row} {v : Value} {l : List r.den} (h : Rep F w (.slice r) [v] l) {i : Int} {y : r.den} (hi : idx l i = some y) :
    ∃ b off cap k, v = .slice (some ⟨b, off, none⟩) l.length cap ∧ i = (k : Nat) ∧ k < l.length ∧ F b ∧ At F w r b (off + k * r.size) y := by
  obtain ⟨A, cap, hv, _, _, h4⟩ := h
  obtain ⟨k, hk, hlt, rfl⟩ := idx_some hi
  obtain ⟨b, off, es, rfl, hF, hel, hc, hr⟩ := h4 k hlt
  exact ⟨b, off, cap, k, by simpa using hv, hk, hlt, hF, es, hel, hc, hr⟩

/-- What a slice's descriptor reads as: its elements, and whether it is an object's own. -/
inductive SlK where
  | read (r : Row) (l : List r.den)
  | own (o s : Nat) (T : TypeId) (r : Row) (l : List r.den)
  | nil
  | view (o s : Nat) (r : Row) (l : List r.den)
  | deep (o s : Nat) (T : TypeId) (d : DR) (l : List d.row.den) (h : Option Hole)

def asSl (ob : Nat → Option (Nat × Th)) : Desc → Option SlK
  | .val false (.leaf (.slice r) l) => some (.read r l)
  | .val false .nil => some .nil
  | .val false (.own o) => match ob o with
    | some (s, .own T r l) => some (.own o s T r l)
    | some (_, .frz _ r l) => some (.read r l)
    | some (_, .fdeep _ d l) => some (.read d.row l)
    | some (s, .deep T d l h) => some (.deep o s T d l h)
    | _ => none
  | .val false (.view o s r m) => match ob o with
    | some (s', .frz ..) => bif Nat.beq s' s then some (.read r m) else some (.view o s r m)
    | _ => some (.view o s r m)
  | _ => none

def SlOK (U : Nat → Prop) (H : Hist) (F : Nat → Prop) (w : World) (ob : Nat → Option (Nat × Th)) (v : Value) : SlK → Prop
  | .read r l => Rep F w (.slice r) [v] l
  | .own o s T r l => H.val o = some v ∧ ob o = some (s, .own T r l) ∧ Own 0 F w T r v l
  | .nil => v = .slice none 0 0
  | .view o s r m => ViewOK H o s r m v
  | .deep o s T d l h => H.val o = some v ∧ ob o = some (s, .deep T d l h) ∧ ThIn U H F w v s (.deep T d l h)

theorem asSl_ok (hs : ObSat U H F w ob n) {D : Desc} {k : SlK} {v : Value} (h : asSl ob D = some k) (hd : DescOK H F w D v) : SlOK U H F w ob v k := by
  unfold asSl at h
  split at h
  · cases h; exact ValOK.inv hd
  · cases h
    obtain ⟨cs, h1, _, h3⟩ := hd
    have h1' : cs = _ := h1
    rw [h3 rfl] at h1'
    simpa [SlOK] using h1'
  · rename_i o
    obtain ⟨cs, ⟨u, hu, hu1, e⟩, _, h3⟩ := hd
    rw [h3 rfl] at e
    obtain rfl : v = u := by simpa using e
    split at h
    · rename_i s T r l heq
      cases h
      exact ⟨hu, heq, hs.own heq hu⟩
    · rename_i s T r l heq
      cases h
      obtain ⟨v', hv', hi⟩ := hs.obj _ _ _ heq
      rw [hu] at hv'
      obtain rfl := Option.some.inj hv'
      exact hi.ok
    · rename_i s T d l heq
      cases h
      obtain ⟨v', hv', hi⟩ := hs.obj _ _ _ heq
      rw [hu] at hv'
      obtain rfl := Option.some.inj hv'
      exact hi.ok
    · rename_i s T d l h' heq
      cases h
      obtain ⟨v', hv', hi⟩ := hs.obj _ _ _ heq
      rw [hu] at hv'
      obtain rfl := Option.some.inj hv'
      exact ⟨hu, heq, hi⟩
    · cases h
  · rename_i o s r m
    obtain ⟨cs, ⟨u, e, hu⟩, _, h3⟩ := hd
    rw [h3 rfl] at e
    obtain rfl : v = u := by simpa using e
    split at h
    · rename_i s' T r' l' heq
      cases hb : Nat.beq s' s with
      | false => rw [hb] at h; cases h; exact hu
      | true =>
        rw [hb] at h
        obtain rfl := Nat.eq_of_beq_eq_true hb
        cases h
        exact view_read hs heq hu
    · cases h; exact hu
  · cases h

/-- The elements of an array. -/
def arrL : Nat → (r : Row) → r.den → (e : Row) → Option (List e.den)
  | 1, r, x, e => if h : r.beq e = true then some [castR (Row.eq_of_beq h) x] else none
  | m + 2, .pair a b, x, e => if h : a.beq e = true then (match arrL (m + 1) b x.2 e with
    | some l => some (castR (Row.eq_of_beq h) x.1 :: l)
    | none => none) else none
  | _, _, _, _ => none

theorem arrL_at {e : Row} {b : Nat} : {m : Nat} → {r : Row} → {x : r.den} → {l : List e.den} → {off : Nat} → arrL m r x e = some l → At F w r b off x → l.length = m ∧ ∀ i (h : i < l.length), At F w e b (off + i * e.size) l[i]
  | 0, r, x, l, off, h, _ => by unfold arrL at h; cases h
  | 1, r, x, l, off, h, ha => by
    unfold arrL at h
    split at h
    case isFalse => cases h
    rename_i hb
    obtain rfl := Row.eq_of_beq hb
    obtain rfl := Option.some.inj h
    refine ⟨rfl, fun i hi => ?_⟩
    obtain rfl : i = 0 := by simp at hi; omega
    rw [Nat.zero_mul, Nat.add_zero]
    exact ha
  | m + 2, .pair a b', x, l, off, h, ha => by
    unfold arrL at h
    split at h
    case isFalse => cases h
    rename_i hb
    obtain rfl := Row.eq_of_beq hb
    split at h
    case h_2 => cases h
    rename_i l' hl
    obtain rfl := Option.some.inj h
    obtain ⟨g1, g2⟩ := arrL_at hl (ha.snd _ rfl)
    refine ⟨by simp [g1], fun i hi => ?_⟩
    cases i with
    | zero =>
      rw [Nat.zero_mul, Nat.add_zero]
      exact ha.fst
    | succ i =>
      have := g2 i (by simpa using hi)
      rw [show off + (i + 1) * a.size = off + a.size + i * a.size from by rw [Nat.add_mul]; omega]
      exact this
  | m + 2, .int _, _, _, _, h, _ => by unfold arrL at h; cases h
  | m + 2, .bool, _, _, _, h, _ => by unfold arrL at h; cases h
  | m + 2, .str, _, _, _, h, _ => by unfold arrL at h; cases h
  | m + 2, .slice _, _, _, _, h, _ => by unfold arrL at h; cases h
  | m + 2, .hdr, _, _, _, h, _ => by unfold arrL at h; cases h
  | m + 2, .nul _, _, _, _, h, _ => by unfold arrL at h; cases h
  | m + 2, .map .., _, _, _, h, _ => by unfold arrL at h; cases h

theorem pure_indexArr {t e : TypeId} {x y : Operand} {kd : IntKind} {a : Int} {ti : TypeInfo} {m blk off i : Nat} (size : Nat) (ht : P.underlying t = some (.array m e)) (hi : P.info? e = some ti) (hsz : ti.size = size)
    (hx : ev ρ x = .pointer (some ⟨blk, off, none⟩)) (hy : ev ρ y = .int kd a) (ha : a = (i : Int)) (hlt : i < m) :
    Pure P ρ ⟨some d, .indexAddr t x y, ty, pos, aft, none⟩ (.pointer (some ⟨blk, off + i * size, none⟩)) := fun w => by
  subst hsz; subst ha
  simp [execOp, Instr.indexAt, Instr.sureAddr, asIntOf, run_underlying ht, sizeOf, typeInfo, hi, hx, hy, hlt, addr_add_none]

theorem bif_eq' {α : Type} {b : Bool} {x : Option α} {y : α} (h : (bif b then x else none) = some y) : b = true ∧ x = some y := by
  cases b with
  | true => exact ⟨rfl, h⟩
  | false => cases h

def eIndexA (T : Tabs P) (m : Nat) (e : TypeId) (D : Desc) (i : Int) (k : Eff → Option R) : Option R :=
  match find T.row e with
  | some re => match D with
    | .at r x => match arrL m r x re with
      | some l => (idx l i).bind fun y => k { dst := .at re y }
      | none => none
    | .ptr o p off => match i with
      | .ofNat j => bif Nat.blt j m then k { dst := .ptr o (p ++ fpath m j) (off + j * re.size) } else none
      | .negSucc _ => none
    | _ => none
  | none => none
theorem eIndexA_ok (T : Tabs P) {t : TypeId} {m : Nat} {e : TypeId} (hu : P.underlying t = some (.array m e)) {D : Desc} {x y : Operand} {kd : IntKind} {i : Int} {k : Eff → Option R} {q : R} (h : eIndexA T m e D i k = some q) (hs : ObSat U H F w ob n) (hx : DescOK H F w D (ev ρ x)) (hy : ev ρ y = .int kd i) :
    ∃ e, k e = some q ∧ Says P U H F w ρ ob n ⟨some d, .indexAddr t x y, ty, pos, aft, none⟩ e := by
  unfold eIndexA at h
  split at h
  case h_2 => cases h
  rename_i re hr
  obtain ⟨ti, z, h1, _, _, h4, _⟩ := T.row_ok _ _ hr
  split at h
  case h_3 => cases h
  case h_2 =>
    split at h
    case h_2 => cases h
    rename_i o p off _ j
    obtain ⟨hlt, hk⟩ := bif_eq' h
    have hlt : j < m := by simpa using hlt
    obtain ⟨b, hb, hv⟩ := hx
    exact ⟨_, hk, says_Pure hs (pure_indexArr re.size hu h1 h4 hv hy rfl hlt) ⟨b, hb, rfl⟩⟩
  rename_i r v
  split at h
  case h_2 => cases h
  rename_i l hl
  obtain ⟨a, ha, hk⟩ := bind_some h
  obtain ⟨b, off, hv, hF, hat⟩ := hx
  obtain ⟨g1, g2⟩ := arrL_at hl hat
  obtain ⟨j, hj, hlt, rfl⟩ := idx_some ha
  exact ⟨_, hk, says_Pure hs (pure_indexArr re.size hu h1 h4 hv hy hj (by omega)) ⟨b, _, rfl, hF, g2 j hlt⟩⟩

def eIndex (T : Tabs P) (ob : Nat → Option (Nat × Th)) (t : TypeId) (D : Desc) (i : Int) (k : Eff → Option R) : Option R :=
  match find T.und t with
  | some (.slice e) => match find T.row e with
    | some re => match asSl ob D with
      | some (.read r l) => bif Nat.beq r.size re.size then (idx l i).bind fun x => k { dst := .at r x } else none
      | some (.own o s _ r l) => bif Nat.beq r.size re.size then (idx l i).bind fun x => k { dst := .elem o s r i x [] 0 } else none
      | some (.deep o _ _ d l _) => bif Nat.beq d.low.size re.size then (idx l i).bind fun _ => k { dst := .dlm o d i [] 0 } else none
      | _ => none
    | none => none
  | some (.array m e) => eIndexA T m e D i k
  | _ => none

theorem eIndex_ok (T : Tabs P) {t : TypeId} {D : Desc} {x y : Operand} {kd : IntKind} {i : Int} {k : Eff → Option R} {q : R} (h : eIndex T ob t D i k = some q) (hs : ObSat U H F w ob n) (hx : DescOK H F w D (ev ρ x)) (hy : ev ρ y = .int kd i) :
    ∃ e, k e = some q ∧ Says P U H F w ρ ob n ⟨some d, .indexAddr t x y, ty, pos, aft, none⟩ e := by
  unfold eIndex at h
  split at h
  case h_3 => cases h
  case h_2 => rename_i m e hu; exact eIndexA_ok T (T.und_ok _ _ hu) h hs hx hy
  rename_i e hu
  have hu := T.und_ok _ _ hu
  split at h
  case h_2 => cases h
  rename_i re hr
  obtain ⟨ti, z, h1, _, _, h4, _⟩ := T.row_ok _ _ hr
  split at h
  · rename_i r l hsl
    cases hz : Nat.beq r.size re.size with
    | false => rw [hz] at h; cases h
    | true =>
      rw [hz, cond_true] at h
      have hz := beq_true hz
      obtain ⟨a, ha, hk⟩ := bind_some h
      have hsl := asSl_ok hs hsl hx
      obtain ⟨b, off, cap, j, hv, hj, hlt, hF, hat⟩ := Rep.elemAt hsl ha
      refine ⟨_, hk, says_Pure hs (pure_indexAddr r.size hu h1 (h4.trans hz.symm) hv hy hj hlt) ⟨b, _, rfl, hF, hat⟩⟩
  · rename_i o s T' r l hsl
    cases hz : Nat.beq r.size re.size with
    | false => rw [hz] at h; cases h
    | true =>
      rw [hz, cond_true] at h
      have hz := beq_true hz
      obtain ⟨a, ha, hk⟩ := bind_some h
      obtain ⟨hv, hob, hown⟩ := asSl_ok hs hsl hx
      obtain ⟨v', hv', hin⟩ := hs.obj _ _ _ hob
      obtain ⟨j, hj, hlt, hja⟩ := idx_some ha
      obtain ⟨_, xs, hx2, _⟩ := hown
      rcases hx2.2 with ⟨hnil, h0⟩ | ⟨g, o0, cap, cur, hsl', _, _, _⟩
      · omega
      · have hp := pure_indexAddr (P := P) (d := some d) (ty := ty) (pos := pos) (aft := aft) r.size hu h1 (h4.trans hz.symm) hsl' hy hj hlt
        refine ⟨_, hk, says_Pure hs hp ⟨g, o0, j, T', l.length, cap, l, ?_, hj, hin.con, ha, rfl⟩⟩
        rw [← hsl']
        exact hv
  · rename_i o s T' d' l hh hsl
    obtain ⟨hz, h⟩ := bif_eq' h
    have hz := beq_true hz
    obtain ⟨a, ha, hk⟩ := bind_some h
    obtain ⟨hv, hob, hin⟩ := asSl_ok hs hsl hx
    obtain ⟨j, hj, hlt, hja⟩ := idx_some ha
    obtain ⟨lh, _, ⟨xs, hx2, _⟩, hll, _⟩ := hin.ok
    rcases hx2.2 with ⟨hnil, h0⟩ | ⟨g, o0, cap, cur, hsl', _, _, _⟩
    · omega
    · have hp := pure_indexAddr (P := P) (d := some d) (ty := ty) (pos := pos) (aft := aft) d'.low.size hu h1 (h4.trans hz.symm) hsl' hy hj (by omega)
      refine ⟨_, hk, says_Pure hs hp ⟨g, o0, j, lh.length, cap, ?_, hj, rfl⟩⟩
      rw [← hsl']
      exact hv
  · cases h

/-! ## Loads -/
theorem cells_at {b : Nat} {T : TypeId} {es : List Value} (hh : w.heap[b]? = some (.cells es.toArray T (0, 0))) (j : Nat) : w.cell? ⟨b, j, none⟩ = es[j]? := by
  rw [cell_of_row w b j _ T (0, 0) hh]
  simp

/-- A load of cells that lie there. -/
theorem load_says (T : Tabs P) {t : TypeId} {kk : TyK} (hu : find T.und t = some kk) {x : Operand} {b off : Nat} {s : Tree} {cs : List Value} (hx : ev ρ x = .pointer (some ⟨b, off, none⟩)) (hs : ObSat U H F w ob n)
    (hh : Holds H F w s cs) (hc : ∀ j u, cs[j]? = some u → w.cell? ⟨b, off + j, none⟩ = some u)
    (hz : if aggK kk = true then ∃ r, find T.row t = some r ∧ r.size = s.size else s.size = 1) :
    Says P U H F w ρ ob n ⟨some d, .load t x, ty, pos, aft, none⟩ { dst := .val (aggK kk) s } := by
  obtain ⟨dd, hd1, hd2⟩ := (T.und_ok _ _ hu).agg
  have hl := hh.length
  cases ha : aggK kk with
  | true =>
    rw [if_pos ha] at hz
    obtain ⟨r, hr, hrs⟩ := hz
    obtain ⟨ti, z, h1, _, _, h4, _⟩ := T.row_ok _ _ hr
    exact says_pure hs (run_loadA hd1 (hd2.trans ha) h1 (by omega) hx hc) ⟨cs, hh, rfl, by simp⟩
  | false =>
    rw [if_neg (by simp [ha])] at hz
    obtain ⟨v, rfl⟩ : ∃ v, cs = [v] := by
      match cs, hl.trans hz with
      | [v], _ => exact ⟨v, rfl⟩
    exact says_pure hs (run_load1 hd1 (hd2.trans ha) hx (hc 0 v rfl)) ⟨[v], hh, rfl, fun _ => rfl⟩

def sizeOK (T : Tabs P) (t : TypeId) (kk : TyK) (m : Nat) : Bool :=
  bif aggK kk then (match find T.row t with | some r => Nat.beq r.size m | none => false) else Nat.beq m 1

theorem sizeOK_ok (T : Tabs P) {t : TypeId} {kk : TyK} {m : Nat} (h : sizeOK T t kk m = true) : if aggK kk = true then ∃ r, find T.row t = some r ∧ r.size = m else m = 1 := by
  unfold sizeOK at h
  cases ha : aggK kk with
  | true =>
    rw [ha, cond_true] at h
    rw [if_pos rfl]
    split at h
    · rename_i r hr; exact ⟨r, hr, beq_true h⟩
    · cases h
  | false =>
    rw [ha, cond_false] at h
    rw [if_neg (by simp)]
    exact beq_true h

def eLoad (T : Tabs P) (ob : Nat → Option (Nat × Th)) (t : TypeId) (D : Desc) (k : Eff → Option R) : Option R :=
  match find T.und t with
  | none => none
  | some kk => match D with
    | .at r x => bif sizeOK T t kk r.size then k { dst := .val (aggK kk) (.leaf r x) } else none
    | .ptr o p off => match ob o with
      | some (_, .box _ tr) => match tr.get p with
        | some (s, off') => bif Nat.beq off' off && sizeOK T t kk s.size then k { dst := .val (aggK kk) s } else none
        | none => none
      | _ => none
    | .elem o s r i x p off => match ob o with
      | some (s', .own _ r' l) => bif Nat.beq s' s then
          (match sub r x p with
          | some ⟨q, y, off'⟩ => bif Nat.beq off' off && sizeOK T t kk q.size then k { dst := .val (aggK kk) (.leaf q y) } else none
          | none => none)
        else (idx l i).bind fun x' => match sub r' x' p with
          | some ⟨q, y, off'⟩ => bif Nat.beq off' off && sizeOK T t kk q.size && Nat.beq r'.size r.size then k { dst := .val (aggK kk) (.leaf q y) } else none
          | none => none
      | _ => none
    | _ => none

theorem bif_eq {α : Type} {b : Bool} {x : Option α} {y : α} (h : (bif b then x else none) = some y) : b = true ∧ x = some y := by
  cases b with
  | true => exact ⟨rfl, h⟩
  | false => cases h

theorem and2 {a b : Bool} (h : (a && b) = true) : a = true ∧ b = true := by simpa using h

/-- The address of an element of an own slice, now. -/
theorem elem_at (hs : ObSat U H F w ob n) {o s' : Nat} {T' : TypeId} {r' : Row} {i : Int} {x' : r'.den} {l : List r'.den} {g o0 q m cap : Nat} (hob : ob o = some (s', .own T' r' l)) (hv : H.val o = some (.slice (some ⟨g, o0, none⟩) m cap)) (hq : i = (q : Nat)) (hi : idx l i = some x') :
    At F w r' g (o0 + q * r'.size) x' := (hs.own hob hv).at rfl hq hi

theorem eLoad_ok (T : Tabs P) {t : TypeId} {D : Desc} {x : Operand} {k : Eff → Option R} {q : R} (h : eLoad T ob t D k = some q) (hs : ObSat U H F w ob n) (hx : DescOK H F w D (ev ρ x)) :
    ∃ e, k e = some q ∧ Says P U H F w ρ ob n ⟨some d, .load t x, ty, pos, aft, none⟩ e := by
  unfold eLoad at h
  split at h
  · cases h
  rename_i kk hu
  split at h
  · rename_i r y
    obtain ⟨h1, h2⟩ := bif_eq h
    obtain ⟨b, off, e, hF, es, hl, hc, hr⟩ := hx
    exact ⟨_, h2, load_says T hu e hs (s := .leaf r y) hr hc (sizeOK_ok T h1)⟩
  · rename_i o p off
    split at h
    · rename_i st0 T0 tr hob
      split at h
      · rename_i s off' hg
        obtain ⟨h1, h2⟩ := bif_eq h
        obtain ⟨h1, h3⟩ := and2 h1
        obtain rfl := beq_true h1
        obtain ⟨b, hb, e⟩ := hx
        obtain ⟨es, hh, hho⟩ := hs.box hob hb
        obtain ⟨g1, g2⟩ := hho.get hg
        refine ⟨_, h2, load_says T hu e hs g1 (fun j u hj => ?_) (sizeOK_ok T h3)⟩
        rw [cells_at hh]
        rw [List.getElem?_take] at hj
        split at hj
        · rwa [List.getElem?_drop] at hj
        · cases hj
      · cases h
    · cases h
  · rename_i o s r i y p off
    split at h
    · rename_i s' T0 r' l hob
      obtain ⟨g, o0, qq, T', m, cap, l0, e1, e2, e3, e4, e5⟩ := hx
      cases hss : Nat.beq s' s with
      | true =>
        rw [hss, cond_true] at h
        obtain rfl := beq_true hss
        obtain ⟨v, hv, hin⟩ := hs.obj _ _ _ hob
        have hc := hin.con
        rw [e3] at hc
        obtain ⟨rfl, hc2⟩ : T' = T0 ∧ (⟨r, l0⟩ : (r : Row) × List r.den) = ⟨r', l⟩ := by
          have := Option.some.inj hc
          simp only [Th.base, Th.own.injEq] at this
          obtain ⟨a, b, c⟩ := this
          subst b
          exact ⟨a, by rw [eq_of_heq c]⟩
        cases hc2
        split at h
        · rename_i q' y' off' hsub
          obtain ⟨h1, h2⟩ := bif_eq h
          obtain ⟨h1, h3⟩ := and2 h1
          obtain rfl := beq_true h1
          obtain ⟨es, hl, hce, hr⟩ := sub_at hsub (elem_at hs hob e1 e2 e4)
          exact ⟨_, h2, load_says T hu e5 hs (s := .leaf q' y') hr hce (sizeOK_ok T h3)⟩
        · cases h
      | false =>
        rw [hss, cond_false] at h
        obtain ⟨x', hx', h⟩ := bind_some h
        split at h
        · rename_i q' y' off' hsub
          obtain ⟨h1, h2⟩ := bif_eq h
          obtain ⟨h1, h4⟩ := and2 h1
          obtain ⟨h1, h3⟩ := and2 h1
          obtain rfl := beq_true h1
          have h4 := beq_true h4
          obtain ⟨es, hl, hce, hr⟩ := sub_at hsub (elem_at hs hob e1 e2 hx')
          rw [h4] at hce
          exact ⟨_, h2, load_says T hu e5 hs (s := .leaf q' y') hr hce (sizeOK_ok T h3)⟩
        · cases h
    · cases h
  · cases h
end
end Go.Proofs.YtjeeligfdpociaaGreat

namespace Go.Proofs.YtjeeligfdpociaaGreat
open Go Go.RowKit

def toPath : (r : Row) → List Bool → Option ((s : Row) × Path r s)
  | r, [] => some ⟨r, .here⟩
  | .pair a b, d :: p => match d with
    | false => match toPath a p with
      | some ⟨s, q⟩ => some ⟨s, .fst q⟩
      | none => none
    | true => match toPath b p with
      | some ⟨s, q⟩ => some ⟨s, .snd q⟩
      | none => none
  | _, _ :: _ => none

section
variable {P : Program} {ρ : Nat → Value} {w w' : World} {H H' : Hist} {F F' : Nat → Prop} {U : Nat → Prop} {ob : Nat → Option (Nat × Th)} {n : Nat} {R : Type}
variable {op : Op} {ty : TypeId} {pos : String} {aft : Array Edge} {d : Nat}

def Hist.setCon (H : Hist) (s : Nat) (t : Th) : Hist := ⟨H.val, fun m => if m = s then some t else H.con m, H.sub⟩
def Hist.setVal (H : Hist) (o : Nat) (v : Value) : Hist := ⟨fun m => if m = o then some v else H.val m, H.con, H.sub⟩
/-- The blocks of what is deep, at stamp s. -/
def Hist.setSub (H : Hist) (s : Nat) (S : Nat → Prop) : Hist := ⟨H.val, H.con, fun m => if m = s then S else H.sub m⟩

theorem Hist.le_setCon {H : Hist} {s : Nat} {t : Th} (h : H.con s = none) : H.le (H.setCon s t) := ⟨fun _ _ h => h, fun m q hq => by
  by_cases e : m = s
  · subst e; rw [h] at hq; cases hq
  · simp [Hist.setCon, e, hq], fun _ _ _ => rfl⟩
theorem Hist.le_setSub {H : Hist} {s : Nat} {S : Nat → Prop} (h : H.con s = none) : H.le (H.setSub s S) := ⟨fun _ _ h => h, fun _ _ h => h, fun m t hm => by
  have : m ≠ s := fun e => by rw [e, h] at hm; cases hm
  simp [Hist.setSub, this]⟩
theorem Hist.le_setVal {H : Hist} {s : Nat} {t : Value} (h : H.val s = none) : H.le (H.setVal s t) := ⟨fun m q hq => by
  by_cases e : m = s
  · subst e; rw [h] at hq; cases hq
  · simp [Hist.setVal, e, hq], fun _ _ h => h, fun _ _ _ => rfl⟩

theorem find_one {α : Type} {o o' : Nat} {x y : α} (h : find [(o, x)] o' = some y) : o' = o ∧ y = x := by
  rw [find_cons] at h
  split at h
  · rename_i e; exact ⟨e.symm, (Option.some.inj h).symm⟩
  · cases h

/-- An object that is changed in place. -/
theorem Post.inplace (hs : ObSat U H F w ob n) {o s : Nat} {t t' : Th} {v0 : Value} (ho : ob o = some (s, t)) (hv : H.val o = some v0) (hb : t'.base = t') (hfp : ∀ k, fp (H.sub n) v0 t' k → fp (H.sub s) v0 t k) {D : Desc} {v : Value}
    (hext : Ext (fp (H.sub s) v0 t) w w') (hok : ThOK (H.setCon n t') F w' (H.sub n) v0 t') (hd : DescOK (H.setCon n t') F w' D v) : PostE H F w ob n { dst := D, eat := [o], make := [(o, (n, t'))] } v w' := by
  obtain ⟨v1, hv1, hin⟩ := hs.obj _ _ _ ho
  rw [hv] at hv1
  obtain rfl := Option.some.inj hv1
  have heat : ∀ k, fp (H.sub s) v0 t k → eaten H ob [o] k := fun k hk => ⟨o, by simp, s, t, v0, ho, hv, hk⟩
  refine ⟨H.setCon n t', F, ⟨Hist.le_setCon (hs.fresh n (Nat.le_refl _) (by omega)).2, ⟨hext.os, hext.tape, hext.output, hext.size, fun k hk hn => hext.block k hk fun e => hn (heat k e)⟩, fun _ h => h, fun _ h => .inl h, fun b hb => Nat.lt_of_lt_of_le (hs.lt b hb) hext.size⟩, fun m hm => ?_, hd, ⟨fun o' s' q hq => ?_, fun o1 o2 s1 s2 q1 q2 u1 u2 hne h1 h2 => ?_⟩, fun o' h => ?_⟩
  · refine ⟨id, fun h => ?_⟩
    simp [Hist.setCon, show m ≠ n from by omega, h]
  · obtain ⟨rfl, e⟩ := find_one hq
    obtain ⟨rfl, rfl⟩ := Prod.mk.inj e
    refine ⟨v0, hv, hin.one, by simp [Hist.setCon, hb], hok, fun k hk => ⟨hin.no k (hfp k hk), Nat.lt_of_lt_of_le (hin.lt k (hfp k hk)) hext.size, .inr (heat k (hfp k hk))⟩⟩
  · exact absurd ((find_one h1).1.trans (find_one h2).1.symm) hne
  · left
    obtain ⟨y, hy⟩ := Option.isSome_iff_exists.1 h
    rw [(find_one hy).1]
    simp

/-- A new object: id and stamp n. -/
theorem Post.new (hs : ObSat U H F w ob n) {eat : List Nat} {t : Th} {v0 : Value} (hb : t.base = t) (h1 : v0.oneCell' = true) {D : Desc} {v : Value}
    (hext : Ext (eaten H ob eat) w w') (hok : ThOK ((H.setCon n t).setVal n v0) F w' (H.sub n) v0 t) (hfp : ∀ k, fp (H.sub n) v0 t k → ¬ F k ∧ k < w'.heap.size ∧ (w.heap.size ≤ k ∨ eaten H ob eat k))
    (hd : DescOK ((H.setCon n t).setVal n v0) F w' D v) : PostE H F w ob n { dst := D, eat := eat, make := [(n, (n, t))] } v w' := by
  have hf := hs.fresh n (Nat.le_refl _) (by omega)
  refine ⟨(H.setCon n t).setVal n v0, F, ⟨(Hist.le_setCon hf.2).trans (Hist.le_setVal (by simp [Hist.setCon, hf.1])), hext, fun _ h => h, fun _ h => .inl h, fun b hb => Nat.lt_of_lt_of_le (hs.lt b hb) hext.size⟩, fun m hm => ?_, hd, ⟨fun o' s' q hq => ?_, fun o1 o2 s1 s2 q1 q2 u1 u2 hne h1 h2 => ?_⟩, fun o' h => ?_⟩
  · simp [Hist.setCon, Hist.setVal, show m ≠ n from by omega]
  · obtain ⟨rfl, e⟩ := find_one hq
    obtain ⟨rfl, rfl⟩ := Prod.mk.inj e
    exact ⟨v0, by simp [Hist.setVal], h1, by simp [Hist.setCon, Hist.setVal, hb], hok, hfp⟩
  · exact absurd ((find_one h1).1.trans (find_one h2).1.symm) hne
  · right
    obtain ⟨y, hy⟩ := Option.isSome_iff_exists.1 h
    rw [(find_one hy).1]
    exact Nat.le_refl _

/-! ## Stores -/
def eStore (T : Tabs P) (ob : Nat → Option (Nat × Th)) (n : Nat) (t : TypeId) (D V : Desc) (k : Eff → Option R) : Option R :=
  match find T.row t with
  | none => none
  | some rt => match V with
    | .val _ u => match D with
      | .ptr o p off => match ob o with
        | some (_, .box T0 tr) => match tr.get p with
          | some (s, off') => bif Nat.beq off' off && Nat.beq rt.size s.size && Nat.beq u.size s.size then
              (match tr.put p u with
              | some tr' => k { dst := .dead, eat := [o], make := [(o, (n, .box T0 tr'))] }
              | none => none) else none
          | none => none
        | _ => none
      | .elem o s r i x p off => match ob o with
        | some (s', .own T0 r' l) => match toPath r' p with
          | some ⟨q, pth⟩ => bif Nat.beq pth.off off && Nat.beq rt.size q.size && Nat.beq r'.size r.size then
              (match flat ob q u with
              | some y => bif Nat.beq s' s then
                  (if h : r.beq r' = true then k { dst := .dead, eat := [o], make := [(o, (n, .own T0 r' (setL l i (pth.set (castR (Row.eq_of_beq h) x) y))))] } else none)
                else (idx l i).bind fun x' => k { dst := .dead, eat := [o], make := [(o, (n, .own T0 r' (setL l i (pth.set x' y))))] }
              | none => none) else none
          | none => none
        | _ => none
      | _ => none
    | _ => none

theorem ValOK.cells {agg : Bool} {t : Tree} {v : Value} (h : ValOK H F w agg t v) : ∃ cs, Holds H F w t cs ∧ v.cells.toList = cs := by
  obtain ⟨cs, h1, h2, h3⟩ := h
  refine ⟨cs, h1, ?_⟩
  cases agg with
  | true => rw [h2]; rfl
  | false =>
    have e := h3 rfl
    have h1c := h1.oneCell v (by rw [e]; simp)
    rw [e]
    cases v <;> first | rfl | simp [Value.oneCell'] at h1c

theorem elem_store (T : Tabs P) {t : TypeId} {rt : Row} (hrt : find T.row t = some rt) {x y : Operand} {o s' : Nat} {T0 : TypeId} {r q : Row} {i : Int} {x' : r.den} {z : q.den} {l : List r.den} {p : Path r q} {off g o0 j m cap : Nat} {agg : Bool} {u : Tree}
    (hs : ObSat U H F w ob n) (hob : ob o = some (s', .own T0 r l)) (hv : H.val o = some (.slice (some ⟨g, o0, none⟩) m cap)) (hj : i = (j : Nat)) (hi : idx l i = some x') (hx : ev ρ x = .pointer (some ⟨g, o0 + j * r.size + off, none⟩)) (hoff : p.off = off) (hz : rt.size = q.size)
    (hf : flat ob q u = some z) (hV : ValOK H F w agg u (ev ρ y)) :
    Says P U H F w ρ ob n ⟨none, .store t x y, ty, pos, aft, none⟩ { dst := .dead, eat := [o], make := [(o, (n, .own T0 r (setL l i (p.set x' z))))] } := by
  obtain ⟨ti, z0, h1, _, _, h4, _⟩ := T.row_ok _ _ hrt
  obtain ⟨cs, hcs, hve⟩ := hV.cells
  have hr := flat_ok hs hf hcs
  have hown := hs.own hob hv
  obtain ⟨k', hk, hlt, rfl⟩ := idx_some hi
  obtain rfl : k' = j := by omega
  obtain ⟨cur, hh, hle, hext, hown'⟩ := hown.put rfl hlt hs.lt p hr
  subst hoff
  refine RunsTo.unit (run_storeRow h1 (h4.trans (hz.trans hr.length.symm)) hx rfl hve hr.oneCell hh hle) ?_
  refine Post.inplace (t' := .own T0 r (setL l i (p.set l[k'] z))) (D := .dead) hs hob hv rfl (fun _ h => h) hext ?_ trivial
  have : ThOK (H.setCon n (.own T0 r (setL l i (p.set l[k'] z)))) F (w.setRow g (cur.toList.take (o0 + k' * r.size + p.off) ++ cs ++ cur.toList.drop (o0 + k' * r.size + p.off + cs.length)).toArray) (H.sub n) (.slice (some ⟨g, o0, none⟩) m cap) (.own T0 r (l.set k' (p.set l[k'] z))) := hown'.2
  unfold setL
  rw [hk, Int.toNat_natCast]
  exact this

theorem eStore_ok (T : Tabs P) {t : TypeId} {D V : Desc} {x y : Operand} {k : Eff → Option R} {q : R} (h : eStore T ob n t D V k = some q) (hs : ObSat U H F w ob n) (hx : DescOK H F w D (ev ρ x)) (hy : DescOK H F w V (ev ρ y)) :
    ∃ e, k e = some q ∧ Says P U H F w ρ ob n ⟨none, .store t x y, ty, pos, aft, none⟩ e := by
  unfold eStore at h
  split at h
  · cases h
  rename_i rt hrt
  split at h
  case h_2 => cases h
  rename_i agg u
  split at h
  · rename_i o p off
    split at h
    case h_2 => cases h
    rename_i s0 T0 tr hob
    split at h
    case h_2 => cases h
    rename_i s off' hg
    obtain ⟨h1, h2⟩ := bif_eq h
    obtain ⟨h1, hz2⟩ := and2 h1
    obtain ⟨h1, hz1⟩ := and2 h1
    obtain rfl := beq_true h1
    have hz1 := beq_true hz1
    have hz2 := beq_true hz2
    split at h2
    case h_2 => cases h2
    rename_i tr' hp
    obtain ⟨b, hb, e⟩ := hx
    obtain ⟨es, hh, hho⟩ := hs.box hob hb
    obtain ⟨cs, hcs, hve⟩ := ValOK.cells hy
    have hl := hcs.length
    have hle := (hho.get hg).2
    have hput := Holds.put hcs hg hp hz2.symm hho
    obtain ⟨ti, z0, g1, _, _, g4, _⟩ := T.row_ok _ _ hrt
    refine ⟨_, h2, RunsTo.unit (run_storeRow g1 (by omega) e rfl hve hcs.oneCell hh (by simp; omega)) ?_⟩
    have hnb : ¬ F b := by
      obtain ⟨v1, hv1, hin⟩ := hs.obj _ _ _ hob
      rw [hb] at hv1
      obtain rfl := Option.some.inj hv1
      exact hin.no b rfl
    have hext : Ext (fp (H.sub s0) (.pointer (some ⟨b, 0, none⟩)) (.box T0 tr)) w (w.setRow b (es.toArray.toList.take off' ++ cs ++ es.toArray.toList.drop (off' + cs.length)).toArray) :=
      ⟨rfl, rfl, rfl, by simp, fun k _ hk => setRow_other w b k _ fun e => hk (by simp [fp, e])⟩
    refine Post.inplace (t' := .box T0 tr') (D := .dead) hs hob hb rfl (fun k hk => hk) hext ⟨b, _, rfl, setRow_heap w b _ _ T0 (0, 0) hh, ?_⟩ trivial
    have hk := hput.keep (H' := H.setCon n (.box T0 tr')) (Hist.le_setCon (hs.fresh n (Nat.le_refl _) (by omega)).2) (Step.ext hext hs.lt fun k hk => by
      simp only [fp, Value.pointer.injEq, Option.some.injEq, Addr.mk.injEq, and_true] at hk
      exact hk ▸ hnb)
    rw [← hl] at hk
    simpa using hk
  · rename_i o s r i x0 p off
    split at h
    case h_2 => cases h
    rename_i s' T0 r' l hob
    split at h
    case h_2 => cases h
    rename_i q' pth hpth
    obtain ⟨h1, h2⟩ := bif_eq h
    obtain ⟨h1, hz2⟩ := and2 h1
    obtain ⟨h1, hz1⟩ := and2 h1
    have h1 := beq_true h1
    have hz1 := beq_true hz1
    have hz2 := beq_true hz2
    split at h2
    case h_2 => cases h2
    rename_i z hf
    obtain ⟨g, o0, qq, T', m, cap, l0, e1, e2, e3, e4, e5⟩ := hx
    rw [← hz2] at e5
    cases hss : Nat.beq s' s with
    | true =>
      rw [hss, cond_true] at h2
      obtain rfl := beq_true hss
      split at h2
      case isFalse => cases h2
      rename_i hbeq
      obtain ⟨v, hv, hin⟩ := hs.obj _ _ _ hob
      have hc := hin.con
      rw [e3] at hc
      obtain ⟨rfl, hc2⟩ : T' = T0 ∧ (⟨r, l0⟩ : (r : Row) × List r.den) = ⟨r', l⟩ := by
        have := Option.some.inj hc
        simp only [Th.base, Th.own.injEq] at this
        obtain ⟨a, b, c⟩ := this
        subst b
        exact ⟨a, by rw [eq_of_heq c]⟩
      cases hc2
      exact ⟨_, h2, elem_store T hrt hs hob e1 e2 e4 e5 h1 hz1 hf hy⟩
    | false =>
      rw [hss, cond_false] at h2
      obtain ⟨x', hx', h2⟩ := bind_some h2
      exact ⟨_, h2, elem_store T hrt hs hob e1 e2 hx' e5 h1 hz1 hf hy⟩
  · cases h

/-! ## New variables -/
theorem newbox (hs : ObSat U H F w ob n) {t : TypeId} {tr : Tree} {cs : List Value} (hh : Holds H F w tr cs) :
    PostE H F w ob n { dst := .ptr n [] 0, make := [(n, (n, .box t tr))] } (.pointer (some ⟨w.heap.size, 0, none⟩)) (w.alloc (.cells cs.toArray t)) := by
  have hext : Ext (eaten H ob []) w (w.alloc (.cells cs.toArray t)) := ⟨rfl, rfl, rfl, by simp, fun k hk _ => Below.heap_alloc w _ k hk⟩
  have hf := hs.fresh n (Nat.le_refl _) (by omega)
  refine Post.new (v0 := .pointer (some ⟨w.heap.size, 0, none⟩)) hs rfl rfl hext ⟨_, cs, rfl, heap_alloc_new w _, ?_⟩ (fun k hk => ?_) ⟨w.heap.size, by simp [Hist.setVal], rfl⟩
  · exact hh.keep ((Hist.le_setCon hf.2).trans (Hist.le_setVal (by simp [Hist.setCon, hf.1]))) (Step.alloc hs.lt _)
  · simp only [fp, Value.pointer.injEq, Option.some.injEq, Addr.mk.injEq, and_true] at hk
    subst hk
    exact ⟨fun e => by have := hs.lt _ e; omega, by simp, .inl (Nat.le_refl _)⟩

def eAlloc (T : Tabs P) (n : Nat) (t : TypeId) (k : Eff → Option R) : Option R :=
  match find T.row t with
  | some r => k { dst := .ptr n [] 0, make := [(n, (n, .box t r.ztree))] }
  | none => none
theorem eAlloc_ok (T : Tabs P) {t : TypeId} {k : Eff → Option R} {q : R} (h : eAlloc T n t k = some q) (hs : ObSat U H F w ob n) :
    ∃ e, k e = some q ∧ Says P U H F w ρ ob n ⟨some d, .alloc t, ty, pos, aft, none⟩ e := by
  unfold eAlloc at h
  split at h
  case h_2 => cases h
  rename_i r hr
  obtain ⟨ti, z, h1, h2, h3, _, _⟩ := T.row_ok _ _ hr
  refine ⟨_, h, RunsTo.val (run_alloc h1 h2) ?_⟩
  have := newbox (t := t) hs (Row.ztree_holds H F w r)
  rw [← h3, Array.toArray_toList] at this
  exact this

def eBox (n : Nat) (t : TypeId) (V : Desc) (k : Eff → Option R) : Option R :=
  match V with
  | .val _ u => k { dst := .ptr n [] 0, make := [(n, (n, .box t u))] }
  | _ => none
theorem eBox_ok {t : TypeId} {V : Desc} {x : Operand} {k : Eff → Option R} {q : R} (h : eBox n t V k = some q) (hs : ObSat U H F w ob n) (hx : DescOK H F w V (ev ρ x)) :
    ∃ e, k e = some q ∧ Says P U H F w ρ ob n ⟨some d, .box t x, ty, pos, aft, none⟩ e := by
  unfold eBox at h
  split at h
  case h_2 => cases h
  rename_i agg u
  obtain ⟨cs, hcs, hve⟩ := ValOK.cells hx
  refine ⟨_, h, RunsTo.val (run_box rfl) ?_⟩
  have := newbox (t := t) hs hcs
  rw [← hve, Array.toArray_toList] at this
  exact this
end
end Go.Proofs.YtjeeligfdpociaaGreat
