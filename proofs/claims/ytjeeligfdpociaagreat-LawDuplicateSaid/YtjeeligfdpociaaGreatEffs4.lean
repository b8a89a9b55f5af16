/- More rules: struct literals, slicing, comparisons, values moved. -/
import Derived.Test.YtjeeligfdpociaaGreatEffs3
namespace Go.Proofs.YtjeeligfdpociaaGreat
open Go Go.RowKit

section
variable {P : Program} {ρ : Nat → Value} {w w' : World} {H H' : Hist} {F F' : Nat → Prop} {U : Nat → Prop} {ob : Nat → Option (Nat × Th)} {n : Nat} {R : Type}
variable {op : Op} {ty : TypeId} {pos : String} {aft : Array Edge} {d : Nat}

theorem fillT_ok (T : Tabs P) {fs : List (TypeId × Nat)} {pl : List (Nat × Nat)} (hz : sizesOK T fs = true) (hpl : ∀ i, pl[i]? = place T fs i) (hsz : ∀ ft off r, (ft, off) ∈ fs → find T.row ft = some r → True) :
    {parts : List (Nat × Desc)} → {t t' : Tree} → {cs : List Value} → {vs : List (Nat × Value)} → fillT T fs t parts = some t' → Holds H F w t cs → parts.map (·.1) = vs.map (·.1) → DescsOK H F w (parts.map (·.2)) (vs.map (·.2)) →
    ∃ cs', Instr.fill (pl[·]?) cs.toArray vs = some cs'.toArray ∧ Holds H F w t' cs'
  | [], t, t', cs, vs, h, hh, h1, h2 => by
    obtain rfl := Option.some.inj h
    have : vs = [] := by simpa using h1.symm
    subst this
    exact ⟨cs, by simp [Instr.fill], hh⟩
  | (f, .val agg u) :: parts, t, t', cs, vs, h, hh, h1, h2 => by
    obtain ⟨v, us, e, hv, h3⟩ := h2
    cases vs with
    | nil => simp at e
    | cons fv vs =>
      obtain ⟨f', v'⟩ := fv
      simp only [List.map_cons, List.cons.injEq] at h1 e
      obtain ⟨rfl, h1⟩ := h1
      obtain ⟨rfl, rfl⟩ := e
      unfold fillT at h
      split at h
      case h_2 => cases h
      rename_i s off hg
      split at h
      case h_2 => cases h
      rename_i ft off' hf
      obtain ⟨hb, h'⟩ := bif_eq h
      clear h
      obtain ⟨hb, hb3⟩ := and2 hb
      obtain ⟨hb1, hb2⟩ := and2 hb
      have hb1 := beq_true hb1
      subst hb1
      have hb2 := beq_true hb2
      split at h'
      case h_2 => cases h'
      rename_i tp hp
      obtain ⟨c1, hc1, hve⟩ := ValOK.cells hv
      have hl := hc1.length
      have hle := (hh.get hg).2
      cases hr : find T.row ft with
      | none => simp only [hr] at hb3; cases hb3
      | some r =>
        simp only [hr] at hb3
        have hb3 := beq_true hb3
        have hplace : pl[f]? = some (off, r.size) := by rw [hpl]; simp [place, hf, hr]
        rw [fill_cons hplace hve (by omega) (by omega)]
        have hput := Holds.put hc1 hg hp hb2.symm hh
        rw [show u.size = r.size from by omega] at hput
        exact fillT_ok T hz hpl hsz h' hput h1 h3
  | (_, .dead) :: _, _, _, _, _, h, _, _, _ => by cases h
  | (_, .undef) :: _, _, _, _, _, h, _, _, _ => by cases h
  | (_, .ptr ..) :: _, _, _, _, _, h, _, _, _ => by cases h
  | (_, .at ..) :: _, _, _, _, _, h, _, _, _ => by cases h
  | (_, .elem ..) :: _, _, _, _, _, h, _, _, _ => by cases h
  | (_, .tup _) :: _, _, _, _, _, h, _, _, _ => by cases h
  | (_, .dlm ..) :: _, _, _, _, _, h, _, _, _ => by cases h

def eBuild (T : Tabs P) (rd : Operand → Option Desc) (t : TypeId) (parts : Array (Nat × Operand)) (k : Eff → Option R) : Option R :=
  match find T.und t with
  | some (.struct fs) => match find T.row t with
    | some r => bif sizesOK T fs then
        (match descs rd (parts.toList.map (·.2)) with
        | some ds => match fillT T fs r.ztree ((parts.toList.map (·.1)).zip ds) with
          | some tr => k { dst := .val true tr }
          | none => none
        | none => none) else none
    | none => none
  | _ => none

theorem descsOK_length : {ds : List Desc} → {vs : List Value} → DescsOK H F w ds vs → ds.length = vs.length
  | [], _, h => by rw [show _ = [] from h]; rfl
  | _ :: _, _, h => by obtain ⟨v, us, rfl, _, h2⟩ := h; simp [descsOK_length h2]

theorem eBuild_ok (T : Tabs P) {rd : Operand → Option Desc} (hrd : ∀ x d, rd x = some d → DescOK H F w d (ev ρ x)) {t : TypeId} {parts : Array (Nat × Operand)} {k : Eff → Option R} {q : R} (h : eBuild T rd t parts k = some q) (hs : ObSat U H F w ob n) :
    ∃ e, k e = some q ∧ Says P U H F w ρ ob n ⟨some d, .build t parts, ty, pos, aft, none⟩ e := by
  unfold eBuild at h
  split at h
  case h_2 => cases h
  rename_i fs hu
  obtain ⟨arr, hu1, hu2⟩ := T.und_ok _ _ hu
  split at h
  case h_2 => cases h
  rename_i r hr
  obtain ⟨ti, z, h1, h2, h3, h4, h5⟩ := T.row_ok _ _ hr
  obtain ⟨hz, h⟩ := bif_eq h
  split at h
  case h_2 => cases h
  rename_i ds hds
  split at h
  case h_2 => cases h
  rename_i tr hfill
  have hd := descs_ok (w := w) (H := H) (F := F) (ρ := ρ) hrd hds
  have hlen := descsOK_length hd
  obtain ⟨pl, hp1, hp2⟩ := places_run (w := w) T hu2 hz
  have hn : ∀ (a : List Nat) (b : List Desc), a.length = b.length → (a.zip b).map (·.1) = a ∧ (a.zip b).map (·.2) = b := fun a b hab => ⟨List.map_fst_zip (by omega), List.map_snd_zip (by omega)⟩
  have hzip := hn (parts.toList.map (·.1)) ds (by simp at hlen ⊢; omega)
  obtain ⟨cs', hf, hh⟩ := fillT_ok (w := w) (H := H) (F := F) T hz hp2 (fun _ _ _ _ _ => trivial) (vs := parts.toList.map fun (i, q) => (i, ev ρ q)) hfill (Row.ztree_holds H F w r) (by rw [hzip.1]; simp [Function.comp_def]) (by rw [hzip.2]; simpa [Function.comp_def] using hd)
  refine ⟨_, h, says_pure hs (v := .agg cs'.toArray) ?_ ⟨cs', hh, rfl, by simp⟩⟩
  have hzc : z.cells = r.zeros.toArray := by rw [← h3, Array.toArray_toList]
  have hpm : (arr.mapM fun (f : Field) => (do pure (f.offset, ← sizeOf f.type) : Sem (Nat × Nat))).run P w = .ok pl.toArray w := by
    rw [← Array.toArray_toList (xs := arr), List.mapM_toArray]
    simp only [Sem.run_map, hp1]
    rfl
  have hpp : (parts.map fun (i, q) => (i, ev ρ q)).toList = parts.toList.map fun (i, q) => (i, ev ρ q) := by simp
  have hplf : (fun (x : Nat) => pl.toArray[x]?) = fun x => pl[x]? := by funext x; simp
  simp only [execOp, Instr.build, Sem.run_bind, zeroValue, typeInfo, h1, h2, run_program, Sem.run_pure, Result.andThen_ok, run_underlying hu1, hzc, hpp, hpm, hplf, hf]

/-! ## Slicing -/
def bndD (rd : Operand → Option Desc) : Option Operand → Option (Option Int)
  | none => some none
  | some x => match rd x with
    | some d => match asInt d with
      | some (_, i) => some (some i)
      | none => none
    | none => none

theorem bndD_ok {rd : Operand → Option Desc} (hrd : ∀ x d, rd x = some d → DescOK H F w d (ev ρ x)) {lo : Option Operand} {a : Option Int} (h : bndD rd lo = some a) : Bnd ρ lo a := by
  unfold bndD at h
  split at h
  · obtain rfl := Option.some.inj h; exact .none
  · split at h
    · split at h
      · obtain rfl := Option.some.inj h
        rename_i hD _ _ _ hi
        exact .some (asInt_ok hi (hrd _ _ hD))
      · cases h
    · cases h

def eSlice (dr : Bool) (T : Tabs P) (rd : Operand → Option Desc) (ob : Nat → Option (Nat × Th)) (n : Nat) (t : TypeId) (D : Desc) (lo hi : Option Operand) (k : Eff → Option R) : Option R :=
  match find T.und t with
  | some (.slice e) => match find T.row e with
    | some re => match bndD rd lo with
      | some a => match bndD rd hi with
        | some b => match asSl ob D with
          | some (.read r l) => bif Nat.beq r.size re.size then (cutA l (a.getD 0) (b.getD (l.length : Int))).bind fun m => k { dst := .val false (.leaf (.slice r) m) } else none
          | some .nil => (cutA ([] : List re.den) (a.getD 0) (b.getD 0)).bind fun _ => k { dst := .val false .nil }
          | some (.own o s T0 r l) => bif Nat.beq r.size re.size && Nat.beq T0 e && (lo.isNone || dr) then (cutA l (a.getD 0) (b.getD (l.length : Int))).bind fun m => k { dst := .val false (.own n), eat := [o], make := [(n, (n, .own T0 r m))] }
              else bif Nat.beq r.size re.size then (cutA l (a.getD 0) (b.getD (l.length : Int))).bind fun m => k { dst := .val false (.view o s r m) } else none
          | _ => none
        | none => none
      | none => none
    | none => none
  | _ => none

/-- A piece of an own slice, taken for the whole. -/
theorem trunc_own {e T0 : TypeId} {ti : TypeInfo} {r : Row} {t : TypeId} {x : Operand} {lo hi : Option Operand} {a b : Option Int} {l m : List r.den} {o s : Nat} {v : Value} (ht : P.underlying t = some (.slice e)) (h1 : P.info? e = some ti) (h4 : ti.size = r.size) (hx : ev ρ x = v)
    (hs : ObSat U H F w ob n) (hob : ob o = some (s, .own T0 r l)) (hv0 : H.val o = some v) (ha : Bnd ρ lo a) (hb : Bnd ρ hi b) (hm : cutA l (a.getD 0) (b.getD l.length) = some m) :
    Says P U H F w ρ ob n ⟨some d, .slice t x lo hi none, ty, pos, aft, none⟩ { dst := .val false (.own n), eat := [o], make := [(n, (n, .own T0 r m))] } := by
  have hv := hs.own hob hv0
  obtain ⟨p, q, ep, eq, hpq, hq, rfl⟩ := cutA_some hm
  obtain ⟨A, cap, rfl, hlen, hcm, _⟩ := hv.reads
  have hrun := run_cut (P := P) (w := w) (d := d) (ty := ty) (pos := pos) (aft := aft) ht h1 hx ha hb (by omega) (by omega) (by omega) hlen
  rw [ep, eq, Int.toNat_natCast, Int.toNat_natCast, h4] at hrun
  obtain ⟨hno, xs, ⟨hxl, hxs⟩, hr⟩ := hv
  have htl : ((l.take q).drop p).length = q - p := by simp; omega
  have hmul : q * r.size ≤ l.length * r.size := Nat.mul_le_mul_right _ hq
  have hmul2 : p * r.size ≤ q * r.size := Nat.mul_le_mul_right _ hpq
  have hmul3 : (q - p) * r.size = q * r.size - p * r.size := Nat.sub_mul ..
  have hext : Ext (eaten H ob [o]) w w := ⟨rfl, rfl, rfl, Nat.le_refl _, fun _ _ _ => rfl⟩
  rcases hxs with ⟨hnil, h0⟩ | ⟨g, o0, cap', cur, hsl, hb', hh, hn1, hn2, hcs, htk⟩
  · simp only [Value.slice.injEq] at hnil
    obtain ⟨rfl, _, rfl⟩ := hnil
    have hq0 : q = 0 := by omega
    subst hq0
    obtain rfl : p = 0 := by omega
    refine RunsTo.val hrun (newown hs hext ?_ ?_)
    · simpa [sliced] using Own.nil 0 F w T0 r
    · intro k hk
      simp [sliced, mine, Value.ownBlock] at hk
  · simp only [Value.slice.injEq, true_and] at hsl
    obtain ⟨rfl, rfl⟩ := hsl
    obtain ⟨o1, hval, ho1, hdrop⟩ : ∃ o1, sliced (some ⟨g, o0, none⟩) p q cap r.size = .slice (some ⟨g, o1, none⟩) (q - p) (cap - p) ∧ o1 + (cap - p) * r.size ≤ cur.size ∧ (cur.toList.drop o1).take ((q - p) * r.size) = (xs.drop (p * r.size)).take ((q - p) * r.size) := by
      have hcp : p * r.size ≤ cap * r.size := Nat.mul_le_mul_right _ (by omega)
      have hcp2 : (cap - p) * r.size = cap * r.size - p * r.size := Nat.sub_mul ..
      unfold sliced
      by_cases hc : cap = p
      · refine ⟨o0, by rw [if_pos hc], by omega, ?_⟩
        have : q = p := by omega
        subst this
        simp
      · refine ⟨o0 + p * r.size, by rw [if_neg hc, Option.map_some, addr_add_none], by omega, ?_⟩
        rw [← htk, List.drop_take, List.take_take, List.drop_drop]
        congr 1
        omega
    rw [hval] at hrun
    have hmy : ∀ k, mine (.slice (some ⟨g, o1, none⟩) (q - p) (cap - p)) k → mine (.slice (some ⟨g, o0, none⟩) l.length cap) k := fun k hk => by simpa [mine, Value.ownBlock] using hk
    refine RunsTo.val hrun (newown hs hext ⟨fun k hk => hno k (hmy k hk), (xs.drop (p * r.size)).take ((q - p) * r.size), ⟨by rw [htl]; simp; omega, .inr ⟨g, o1, cap - p, cur, by rw [htl], hb', hh, by omega, by omega, ho1, ?_⟩⟩, fun i hi => ?_⟩ fun k hk => .inl ⟨o, by simp, _, _, _, hob, hv0, hmy k hk⟩)
    · rw [htl]; exact hdrop
    · have hi2 : i < q - p := by omega
      have hle : (i + 1) * r.size ≤ (q - p) * r.size := Nat.mul_le_mul_right _ hi2
      rw [Nat.add_mul] at hle
      have := hr (p + i) (by omega)
      have hg : ((l.take q).drop p)[i] = l[p + i]'(by omega) := by simp
      rw [hg, List.drop_take, List.take_take, Nat.min_eq_left (by omega), List.drop_drop, show p * r.size + i * r.size = (p + i) * r.size from (Nat.add_mul ..).symm]
      exact this

theorem eSlice_ok (dr : Bool) (T : Tabs P) {rd : Operand → Option Desc} (hrd : ∀ x d, rd x = some d → DescOK H F w d (ev ρ x)) {t : TypeId} {D : Desc} {x : Operand} {lo hi : Option Operand} {k : Eff → Option R} {q : R} (h : eSlice dr T rd ob n t D lo hi k = some q) (hs : ObSat U H F w ob n) (hx : DescOK H F w D (ev ρ x)) :
    ∃ e, k e = some q ∧ Says P U H F w ρ ob n ⟨some d, .slice t x lo hi none, ty, pos, aft, none⟩ e := by
  unfold eSlice at h
  split at h
  case h_2 => cases h
  rename_i e hu
  have ht := T.und_ok _ _ hu
  split at h
  case h_2 => cases h
  rename_i re hre
  obtain ⟨ti, z, h1, _, _, h4, _⟩ := T.row_ok _ _ hre
  split at h
  case h_2 => cases h
  rename_i a ha
  split at h
  case h_2 => cases h
  rename_i b hb
  have ha' := bndD_ok (w := w) (H := H) (F := F) (ρ := ρ) hrd ha
  have hb' := bndD_ok (w := w) (H := H) (F := F) (ρ := ρ) hrd hb
  have rdcase : ∀ {r : Row} {l m : List r.den}, Rep F w (.slice r) [ev ρ x] l → r.size = re.size → cutA l (a.getD 0) (b.getD (l.length : Int)) = some m → Says P U H F w ρ ob n ⟨some d, .slice t x lo hi none, ty, pos, aft, none⟩ { dst := .val false (.leaf (.slice r) m) } := by
    intro r l m hv hz hm
    obtain ⟨p, q', ep, eq, hpq, hq, rfl⟩ := cutA_some hm
    have hv' := hv
    obtain ⟨A, cap, he, hc, hmx, _⟩ := hv
    simp only [List.cons.injEq, and_true] at he
    have hrun := run_cut (P := P) (w := w) (d := d) (ty := ty) (pos := pos) (aft := aft) ht h1 he ha' hb' (by omega) (by omega) (by omega) hc
    rw [ep, eq, Int.toNat_natCast, Int.toNat_natCast, h4, ← hz] at hrun
    rw [he] at hv'
    exact says_pure hs hrun (ValOK.leaf1 (hv'.cut hpq hq))
  split at h
  · rename_i r l hsl
    obtain ⟨hz, h⟩ := bif_eq h
    obtain ⟨m, hm, hk⟩ := bind_some h
    exact ⟨_, hk, rdcase (asSl_ok hs hsl hx) (beq_true hz) hm⟩
  · rename_i hsl
    obtain ⟨m, hm, hk⟩ := bind_some h
    have hv : ev ρ x = _ := asSl_ok hs hsl hx
    unfold cutA at hm
    split at hm
    case isFalse => cases hm
    rename_i hc
    have ea : a.getD 0 = 0 := by have := hc.2.1; have := hc.2.2; simp at this; omega
    have eb : b.getD ((0 : Nat) : Int) = 0 := by have := hc.2.1; have := hc.2.2; simp at this ⊢; omega
    have hrun := run_cut (P := P) (w := w) (d := d) (ty := ty) (pos := pos) (aft := aft) ht h1 hv ha' hb' (by omega) (by omega) (by omega) (Nat.le_refl _)
    rw [ea, eb] at hrun
    exact ⟨_, hk, says_pure hs hrun ⟨_, rfl, rfl, fun _ => rfl⟩⟩
  · rename_i o s T0 r l hsl
    obtain ⟨hv, hob, hown⟩ := asSl_ok hs hsl hx
    cases hz0 : (Nat.beq r.size re.size && Nat.beq T0 e && (lo.isNone || dr)) with
    | true =>
      rw [hz0, cond_true] at h
      obtain ⟨hz1, hlo⟩ := and2 hz0
      obtain ⟨hz2, hT⟩ := and2 hz1
      have hzz := beq_true hz2
      obtain ⟨m, hm, hk⟩ := bind_some h
      exact ⟨_, hk, trunc_own ht h1 (h4.trans hzz.symm) rfl hs hob hv ha' hb' hm⟩
    | false =>
      rw [hz0, cond_false] at h
      obtain ⟨hz2, h'⟩ := bif_eq h
      clear h
      have hzz := beq_true hz2
      obtain ⟨m, hm, hk⟩ := bind_some h'
      obtain ⟨p, q', ep, eq, hpq, hq, rfl⟩ := cutA_some hm
      obtain ⟨A, cap, he, hc, hmx, _⟩ := hown.reads
      have hrun := run_cut (P := P) (w := w) (d := d) (ty := ty) (pos := pos) (aft := aft) ht h1 he ha' hb' (by omega) (by omega) (by omega) hc
      rw [ep, eq, Int.toNat_natCast, Int.toNat_natCast, h4, ← hzz] at hrun
      obtain ⟨v', hv', hin⟩ := hs.obj _ _ _ hob
      refine ⟨_, hk, says_pure hs hrun ⟨_, ⟨_, rfl, A, cap, T0, l, p, q', by rw [hv, he], hin.con, hpq, hq, rfl, rfl⟩, rfl, fun _ => rfl⟩⟩
  · cases h

/-! ## Comparisons, conversions, values moved -/
noncomputable def eCmp (T : Tabs P) (ob : Nat → Option (Nat × Th)) (o : BinOp) (t : TypeId) (X Y : Desc) : Option Desc :=
  match X, Y with
  | .val false (.leaf .bool a), .val false (.leaf .bool b) => match find T.und t with
    | some .bool => match o with
      | .eql => some (dBool (decide (a = b)))
      | .neq => some (dBool (!decide (a = b)))
      | _ => none
    | _ => none
  | .val false (.leaf .str a), .val false (.leaf .str b) => match o with
    | .eql => some (dBool (decide (a = b)))
    | .neq => some (dBool (!decide (a = b)))
    | _ => none
  | .val true u, .val true v => match find T.eqs t with
    | some r => match flat ob r u with
      | some x => match flat ob r v with
        | some y => match o with
          | .eql => some (dBool (eqR r x y))
          | .neq => some (dBool (!(eqR r x y)))
          | _ => none
        | none => none
      | none => none
    | none => none
  | _, _ => none

theorem eCmp_ok (T : Tabs P) {o : BinOp} {t u : TypeId} {X Y D : Desc} {x y : Operand} (h : eCmp T ob o t X Y = some D) (hs : ObSat U H F w ob n) (hx : DescOK H F w X (ev ρ x)) (hy : DescOK H F w Y (ev ρ y)) :
    Says P U H F w ρ ob n ⟨some d, .binOp o t x y u, ty, pos, aft, none⟩ { dst := D } := by
  unfold eCmp at h
  split at h
  · rename_i a b
    split at h
    case h_2 => cases h
    rename_i hu
    have hu := T.und_ok _ _ hu
    have ha : ev ρ x = .bool a := ValOK.bool hx
    have hb : ev ρ y = .bool b := ValOK.bool hy
    split at h <;> cases h
    · exact says_Pure hs (pure_eqlb hu ha hb) (ValOK.mkBool ..)
    · exact says_Pure hs (pure_neqb hu ha hb) (ValOK.mkBool ..)
  · rename_i a b
    have ha : ev ρ x = .string a := ValOK.str hx
    have hb : ev ρ y = .string b := ValOK.str hy
    split at h <;> cases h
    · exact says_Pure hs (pure_eqls ha hb) (ValOK.mkBool ..)
    · exact says_Pure hs (pure_neqs ha hb) (ValOK.mkBool ..)
  · rename_i u v
    split at h
    case h_2 => cases h
    rename_i r hr
    obtain ⟨K, dd, hE, hd, hg, hD⟩ := T.eqs_ok _ _ hr
    split at h
    case h_2 => cases h
    rename_i a ha
    split at h
    case h_2 => cases h
    rename_i b hb
    obtain ⟨c1, g1, e1, _⟩ := hx
    obtain ⟨c2, g2, e2, _⟩ := hy
    have r1 := flat_ok hs ha g1
    have r2 := flat_ok hs hb g2
    split at h <;> cases h
    · exact says_Pure hs (pure_eqlT hE hd hg hD e1 e2 r1 r2) (ValOK.mkBool ..)
    · exact says_Pure hs (pure_neqT hE hd hg hD e1 e2 r1 r2) (ValOK.mkBool ..)
  · cases h

def catA (a b : ByteArray) : Option ByteArray := if a.size + b.size ≤ 9223372036854775807 then some (a ++ b) else none
def strAdd (o : BinOp) (X Y : Desc) : Option (ByteArray × ByteArray) :=
  match o, X, Y with
  | .add, .val false (.leaf .str a), .val false (.leaf .str b) => some (a, b)
  | _, _, _ => none
theorem cat_ok {t u : TypeId} {o : BinOp} {X Y : Desc} {x y : Operand} {a b c : ByteArray} (h : strAdd o X Y = some (a, b)) (hc : catA a b = some c) (hs : ObSat U H F w ob n) (hx : DescOK H F w X (ev ρ x)) (hy : DescOK H F w Y (ev ρ y)) :
    Says P U H F w ρ ob n ⟨some d, .binOp o t x y u, ty, pos, aft, none⟩ { dst := .val false (.leaf .str c) } := by
  unfold strAdd at h
  split at h <;> cases h
  unfold catA at hc
  split at hc
  case isFalse => cases hc
  rename_i hle
  obtain rfl := Option.some.inj hc
  have ha : ev ρ x = .string a := ValOK.str hx
  have hb : ev ρ y = .string b := ValOK.str hy
  refine says_pure hs (v := .string (a ++ b)) ?_ (ValOK.leaf1 rfl)
  have : ¬ (9223372036854775807 : Int) < (a.size : Int) + (b.size : Int) := by omega
  simp [execOp, eqGuard, binOp, Op.stringOp, ha, hb, IntKind.max, IntKind.signed, IntKind.bits, this]

noncomputable def eBin (T : Tabs P) (ob : Nat → Option (Nat × Th)) (o : BinOp) (t : TypeId) (lit : Bool) (X Y : Desc) (k : Eff → Option R) : Option R :=
  match asInt X with
  | some (kx, a) => match asInt Y with
    | some (ky, b) => match o with
      | .shl => bif lit then (bif !decide (b < 0) then k { dst := dInt kx (shlV kx a b) } else none) else (shlA kx a b).bind fun c => k { dst := dInt kx c }
      | .shr => bif lit then (bif !decide (b < 0) then k { dst := dInt kx (shrV kx a b) } else none) else (shrA kx a b).bind fun c => k { dst := dInt kx c }
      | o => bif decide (kx = ky) then
        (match o with
        | .quo => bif lit then (bif decide (b ≠ 0) then k { dst := dInt kx (kx.wrap (Int.tdiv a b)) } else none) else (quoA a b).bind fun c => k { dst := dInt kx (kx.wrap c) }
        | .rem => bif lit then (bif decide (b ≠ 0) then k { dst := dInt kx (Int.tmod a b) } else none) else (remA a b).bind fun c => k { dst := dInt kx c }
        | _ => match arith o kx a b with
          | some D => k { dst := D }
          | none => none) else none
    | none => none
  | none => match strAdd o X Y with
    | some (a, b) => (catA a b).bind fun c => k { dst := .val false (.leaf .str c) }
    | none => match eCmp T ob o t X Y with
      | some D => k { dst := D }
      | none => none

theorem eBin_ok (T : Tabs P) {o : BinOp} {t u : TypeId} {lit : Bool} {X Y : Desc} {x y : Operand} {k : Eff → Option R} {q : R} (h : eBin T ob o t lit X Y k = some q) (hs : ObSat U H F w ob n) (hx : DescOK H F w X (ev ρ x)) (hy : DescOK H F w Y (ev ρ y)) :
    ∃ e, k e = some q ∧ Says P U H F w ρ ob n ⟨some d, .binOp o t x y u, ty, pos, aft, none⟩ e := by
  unfold eBin at h
  split at h
  · rename_i kx a hX
    split at h
    case h_2 => cases h
    rename_i ky b hY
    have ha := asInt_ok hX hx
    have hb := asInt_ok hY hy
    split at h
    · cases lit with
      | true =>
        rw [cond_true] at h
        obtain ⟨hne, h⟩ := bif_eq h
        exact ⟨_, h, says_Pure hs (pure_shl ha hb (by simpa using hne)) (ValOK.mkInt ..)⟩
      | false =>
        rw [cond_false] at h
        obtain ⟨c, hc, h⟩ := bind_some h
        unfold shlA at hc
        split at hc
        · cases hc
        · rename_i hne
          obtain rfl := Option.some.inj hc
          exact ⟨_, h, says_Pure hs (pure_shl ha hb hne) (ValOK.mkInt ..)⟩
    · cases lit with
      | true =>
        rw [cond_true] at h
        obtain ⟨hne, h⟩ := bif_eq h
        exact ⟨_, h, says_Pure hs (pure_shr ha hb (by simpa using hne)) (ValOK.mkInt ..)⟩
      | false =>
        rw [cond_false] at h
        obtain ⟨c, hc, h⟩ := bind_some h
        unfold shrA at hc
        split at hc
        · cases hc
        · rename_i hne
          obtain rfl := Option.some.inj hc
          exact ⟨_, h, says_Pure hs (pure_shr ha hb hne) (ValOK.mkInt ..)⟩
    obtain ⟨hk, h'⟩ := bif_eq h
    clear h
    have hk := of_decide_eq_true hk
    subst hk
    revert h'
    intro h
    split at h
    · cases lit with
      | true =>
        rw [cond_true] at h
        obtain ⟨hne, h⟩ := bif_eq h
        exact ⟨_, h, quo_ok (of_decide_eq_true hne) hs ha hb⟩
      | false =>
        rw [cond_false] at h
        obtain ⟨c, hc, h⟩ := bind_some h
        unfold quoA at hc
        split at hc
        · cases hc
        · rename_i hne
          obtain rfl := Option.some.inj hc
          exact ⟨_, h, quo_ok hne hs ha hb⟩
    · cases lit with
      | true =>
        rw [cond_true] at h
        obtain ⟨hne, h⟩ := bif_eq h
        exact ⟨_, h, rem_ok (of_decide_eq_true hne) hs ha hb⟩
      | false =>
        rw [cond_false] at h
        obtain ⟨c, hc, h⟩ := bind_some h
        unfold remA at hc
        split at hc
        · cases hc
        · rename_i hne
          obtain rfl := Option.some.inj hc
          exact ⟨_, h, rem_ok hne hs ha hb⟩
    · split at h
      case h_2 => cases h
      rename_i D hD
      exact ⟨_, h, arith_ok hD hs ha hb⟩
  · split at h
    · rename_i a b hab
      obtain ⟨c, hc, h⟩ := bind_some h
      exact ⟨_, h, cat_ok hab hc hs hx hy⟩
    · split at h
      case h_2 => cases h
      rename_i D hD
      exact ⟨_, h, eCmp_ok T hD hs hx hy⟩

def eUn (o : UnOp) (X : Desc) : Option Desc :=
  match o with
  | .not => match asBool X with
    | some b => some (dBool (!b))
    | none => none
  | .neg => match asInt X with
    | some (k, a) => some (dInt k (k.wrap (0 - a)))
    | none => none
  | _ => none

theorem eUn_ok {o : UnOp} {t : TypeId} {X D : Desc} {x : Operand} (h : eUn o X = some D) (hs : ObSat U H F w ob n) (hx : DescOK H F w X (ev ρ x)) :
    Says P U H F w ρ ob n ⟨some d, .unOp o t x, ty, pos, aft, none⟩ { dst := D } := by
  unfold eUn at h
  split at h
  · split at h <;> cases h
    rename_i b hb
    exact says_Pure hs (pure_not (asBool_ok hb hx)) (ValOK.mkBool ..)
  · split at h <;> cases h
    rename_i k a ha
    exact says_Pure hs (pure_neg (asInt_ok ha hx)) (ValOK.mkInt ..)
  · cases h

def eConv (T : Tabs P) (s t : TypeId) (X : Desc) : Option Desc :=
  match find T.und s with
  | some _ => match find T.und t with
    | some (.int k) => match asInt X with
      | some (_, a) => some (dInt k (k.wrap a))
      | none => none
    | some .str => match asStr X with
      | some a => some (dStr a)
      | none => none
    | _ => none
  | none => none

theorem eConv_ok (T : Tabs P) {s t : TypeId} {X D : Desc} {x : Operand} (h : eConv T s t X = some D) (hs : ObSat U H F w ob n) (hx : DescOK H F w X (ev ρ x)) :
    Says P U H F w ρ ob n ⟨some d, .convert s t x, ty, pos, aft, none⟩ { dst := D } := by
  unfold eConv at h
  split at h
  case h_2 => cases h
  rename_i ks hsu
  obtain ⟨dd, hd1, _⟩ := (T.und_ok _ _ hsu).agg
  split at h
  · rename_i k htu
    split at h <;> cases h
    rename_i k' a ha
    exact says_Pure hs (pure_conv hd1 (T.und_ok _ _ htu) (asInt_ok ha hx)) (ValOK.mkInt ..)
  · rename_i htu
    split at h <;> cases h
    rename_i a ha
    have hv := asStr_ok ha hx
    have htu' : P.underlying t = some .string := T.und_ok _ _ htu
    refine says_pure hs (v := .string a) ?_ (ValOK.mkStr ..)
    simp [execOp, convert, run_underlying hd1, run_underlying htu', hv]
  · cases h

def eExtract (D : Desc) (i : Nat) : Option Desc :=
  match D with
  | .tup ds => match ds[i]? with
    | some (a, t) => some (.val a t)
    | none => none
  | _ => none

theorem TupOK.get : {ds : List (Bool × Tree)} → {vs : List Value} → {i : Nat} → {a : Bool} → {t : Tree} → TupOK H F w ds vs → ds[i]? = some (a, t) → ∃ v, vs[i]? = some v ∧ ValOK H F w a t v
  | [], _, _, _, _, _, h => by cases h
  | d :: ds, _, 0, a, t, hh, h => by
    obtain ⟨v, us, rfl, h1, h2⟩ := hh
    obtain rfl : d = (a, t) := by simpa using h
    exact ⟨v, rfl, h1⟩
  | d :: ds, _, i + 1, a, t, hh, h => by
    obtain ⟨v, us, rfl, h1, h2⟩ := hh
    obtain ⟨v', e, hv⟩ := TupOK.get h2 (by simpa using h)
    exact ⟨v', by simpa using e, hv⟩

theorem eExtract_ok {D D' : Desc} {i : Nat} {x : Operand} (h : eExtract D i = some D') (hs : ObSat U H F w ob n) (hx : DescOK H F w D (ev ρ x)) :
    Says P U H F w ρ ob n ⟨some d, .extract x i, ty, pos, aft, none⟩ { dst := D' } := by
  unfold eExtract at h
  split at h
  case h_2 => cases h
  split at h <;> cases h
  rename_i ds a t hd
  obtain ⟨vs, e, ht⟩ := hx
  obtain ⟨v, hv, hok⟩ := ht.get hd
  exact says_Pure hs (pure_extract e (by simpa using hv)) hok

def eMinMax (mx : Bool) (X Y : Desc) : Option Desc :=
  match asInt X, asInt Y with
  | some (k, a), some (k', b) => bif decide (k = k') then some (dInt k (bif mx then (if a < b then b else a) else (if b < a then b else a))) else none
  | _, _ => none

theorem eMinMax_ok {mx : Bool} {t t' : TypeId} {X Y D : Desc} {x y : Operand} (h : eMinMax mx X Y = some D) (hs : ObSat U H F w ob n) (hx : DescOK H F w X (ev ρ x)) (hy : DescOK H F w Y (ev ρ y)) :
    Says P U H F w ρ ob n ⟨some d, .call { callee := .builtin (bif mx then .max else .min), args := #[x, y], argTypes := #[t, t'] }, ty, pos, aft, none⟩ { dst := D } := by
  unfold eMinMax at h
  split at h
  case h_2 => cases h
  rename_i k a k' b ha hb
  obtain ⟨hk, h'⟩ := bif_eq h
  clear h
  have hk := of_decide_eq_true hk
  subst hk
  obtain rfl := Option.some.inj h'
  have ha := asInt_ok ha hx
  have hb := asInt_ok hb hy
  cases mx with
  | true => exact says_Pure hs (pure_max2 ha hb) (ValOK.mkInt ..)
  | false => exact says_Pure hs (pure_min2 ha hb) (ValOK.mkInt ..)

theorem says_move {D : Desc} {x : Operand} (hs : ObSat U H F w ob n) (hx : DescOK H F w D (ev ρ x)) : Says P U H F w ρ ob n ⟨some d, .move x, ty, pos, aft, none⟩ { dst := D } := says_Pure hs (pure_move rfl) hx
theorem says_assign {D : Desc} {x : Operand} (hs : ObSat U H F w ob n) (hx : DescOK H F w D (ev ρ x)) : Says P U H F w ρ ob n ⟨some d, .assign x, ty, pos, aft, none⟩ { dst := D } := says_Pure hs (pure_assign rfl) hx

/-- A field of a struct value. -/
def eFieldV (T : Tabs P) (t : TypeId) (f : Nat) (X : Desc) : Option Desc :=
  match find T.und t with
  | some (.struct fs) => match fs[f]? with
    | some (ft, off) => match find T.und ft with
      | some kk => match X with
        | .val true u => match u.get (fpath fs.length f) with
          | some (s, off') => bif Nat.beq off' off && sizeOK T ft kk s.size then some (.val (aggK kk) s) else none
          | none => none
        | _ => none
      | none => none
    | none => none
  | _ => none

theorem eFieldV_ok (T : Tabs P) {t : TypeId} {f : Nat} {X D : Desc} {x : Operand} (h : eFieldV T t f X = some D) (hs : ObSat U H F w ob n) (hx : DescOK H F w X (ev ρ x)) :
    Says P U H F w ρ ob n ⟨some d, .field t x f, ty, pos, aft, none⟩ { dst := D } := by
  unfold eFieldV at h
  split at h
  case h_2 => cases h
  rename_i fs hu
  obtain ⟨arr, hu1, hu2⟩ := T.und_ok _ _ hu
  split at h
  case h_2 => cases h
  rename_i ft off hf
  obtain ⟨fd, hfd, rfl, rfl⟩ := field_of hu2 hf
  split at h
  case h_2 => cases h
  rename_i kk hft
  obtain ⟨dd, hd1, hd2⟩ := (T.und_ok _ _ hft).agg
  split at h
  case h_2 => cases h
  rename_i u
  split at h
  case h_2 => cases h
  rename_i s off' hg
  obtain ⟨hb, rfl⟩ := bif_some h
  obtain ⟨hb1, hb2⟩ := and2 hb
  obtain rfl := beq_true hb1
  have hz := sizeOK_ok T hb2
  obtain ⟨cs, hcs, e, _⟩ := hx
  obtain ⟨g1, g2⟩ := hcs.get hg
  have hl := g1.length
  have e' : ev ρ x = .agg cs.toArray := e
  have hpart : ∃ v, (part fd.type cs.toArray fd.offset).run P w = .ok v w ∧ ValOK H F w (aggK kk) s v := by
    cases ha : aggK kk with
    | true =>
      rw [if_pos ha] at hz
      obtain ⟨r, hr, hrs⟩ := hz
      obtain ⟨ti, z, h1, _, _, h4, _⟩ := T.row_ok _ _ hr
      refine ⟨.agg ((cs.drop fd.offset).take s.size).toArray, ?_, _, g1, rfl, by simp⟩
      unfold part
      rw [Sem.run_bind, run_isAgg hd1, hd2, ha]
      simp [sizeOf, typeInfo, h1, h4, hrs]
    | false =>
      rw [if_neg (by simp [ha])] at hz
      have hlt : fd.offset < cs.length := by omega
      refine ⟨cs[fd.offset], ?_, _, g1, ?_, fun _ => ?_⟩
      · unfold part
        rw [Sem.run_bind, run_isAgg hd1, hd2, ha]
        simp [hlt]
      · rw [hz, List.take_one, List.head?_drop, List.getElem?_eq_getElem hlt]; rfl
      · rw [hz, List.take_one, List.head?_drop, List.getElem?_eq_getElem hlt]; rfl
  obtain ⟨v, hv, hok⟩ := hpart
  refine says_pure hs (v := v) ?_ hok
  simp [execOp, Instr.field, run_underlying hu1, hfd, e', asAgg, hv]
end
end Go.Proofs.YtjeeligfdpociaaGreat
