/- Slices whose elements own slices: literals, append. -/
import Derived.Test.YtjeeligfdpociaaGreatEffs8
namespace Go.Proofs.YtjeeligfdpociaaGreat
open Go Go.RowKit

theorem DR.zeros : (d : DR) → d.low.zeros = d.row.zeros
  | .leaf _ => rfl
  | .sl _ _ => rfl
  | .pair a b => by show a.low.zeros ++ b.low.zeros = a.row.zeros ++ b.row.zeros; rw [a.zeros, b.zeros]
theorem TI.low {P : Program} {e : TypeId} {d : DR} (h : TI P e d.row) : TI P e d.low := by
  obtain ⟨ti, z, h1, h2, h3, h4, h5⟩ := h
  exact ⟨ti, z, h1, h2, by rw [d.zeros]; exact h3, by rw [d.size]; exact h4, h5⟩

def nodupL : List Nat → Bool
  | [] => true
  | o :: l => !l.any (Nat.beq o) && nodupL l
theorem nodupL_ok : {l : List Nat} → nodupL l = true → l.Nodup
  | [], _ => List.nodup_nil
  | o :: l, h => by
    obtain ⟨h1, h2⟩ := and2 h
    refine List.nodup_cons.2 ⟨fun hm => ?_, nodupL_ok h2⟩
    rw [any_beq.2 hm] at h1
    cases h1

def DR.mk2 : DR → DR → DR
  | .leaf a, .leaf b => .leaf (.pair a b)
  | a, b => .pair a b
def drOf (ob : Nat → Option (Nat × Th)) : Row → Tree → DR
  | .slice e, .own o => match ob o with
    | some (_, .own T r _) => .sl T (.leaf r)
    | some (_, .deep T d _ none) => .sl T d
    | _ => .leaf (.slice e)
  | .pair a b, t => match t.split with
    | some (x, y) => DR.mk2 (drOf ob a x) (drOf ob b y)
    | none => .leaf (.pair a b)
  | r, _ => .leaf r
def fitD (ob : Nat → Option (Nat × Th)) : (d : DR) → Tree → Option (d.row.den × List Nat)
  | .leaf r, t => match flat ob r t with
    | some x => some (x, [])
    | none => none
  | .sl T e, .own o => match ob o with
    | some (_, t1) => match asD T e t1 with
      | some y => some (y, [o])
      | none => none
    | none => none
  | .sl _ _, .nil => some ([], [])
  | .sl _ _, _ => none
  | .pair a b, t => match t.split with
    | some (x, y) => match fitD ob a x with
      | some (u, os) => match fitD ob b y with
        | some (v, os') => some ((u, v), os ++ os')
        | none => none
      | none => none
    | none => none
def fitsD (ob : Nat → Option (Nat × Th)) (d : DR) : List Desc → Option (List d.row.den × List Nat)
  | [] => some ([], [])
  | .val _ u :: l => match fitD ob d u with
    | some (x, os) => match fitsD ob d l with
      | some (xs, os') => some (x :: xs, os ++ os')
      | none => none
    | none => none
  | _ :: _ => none

section
variable {P : Program} {ρ : Nat → Value} {w w' : World} {H H' : Hist} {F F' : Nat → Prop} {U : Nat → Prop} {ob : Nat → Option (Nat × Th)} {n : Nat} {R : Type}
variable {op : Op} {ty : TypeId} {pos : String} {aft : Array Edge} {d : Nat}

theorem eaten_apart (hs : ObSat U H F w ob n) {os os' : List Nat} (hd : ∀ o, o ∈ os → o ∉ os') : ∀ k, eaten H ob os k → ¬ eaten H ob os' k := by
  rintro k ⟨o, ho, s, t, v, h1, h2, h3⟩ ⟨o', ho', s', t', v', g1, g2, g3⟩
  exact hs.apart o o' s s' t t' v v' (fun e => hd o ho (e ▸ ho')) h1 g1 h2 g2 k h3 g3
theorem eaten_sub {os os' : List Nat} (h : ∀ o, o ∈ os → o ∈ os') : ∀ k, eaten H ob os k → eaten H ob os' k := fun _ ⟨o, ho, rest⟩ => ⟨o, h o ho, rest⟩

theorem fitD_ok (hs : ObSat U H F w ob n) : {d : DR} → {t : Tree} → {x : d.row.den} → {os : List Nat} → {cs : List Value} → fitD ob d t = some (x, os) → Holds H F w t cs → os.Nodup → ∃ x' S, Rep F w d.low cs x' ∧ DEl F w d x' x S ∧ ∀ k, S k → eaten H ob os k
  | .leaf r, t, x, os, cs, h, hh, hnd => by
    unfold fitD at h
    split at h <;> cases h
    rename_i hf
    exact ⟨x, fun _ => False, flat_ok hs hf hh, ⟨rfl, fun _ h => h⟩, fun _ h => h.elim⟩
  | .sl T e, .own o, x, os, cs, h, hh, hnd => by
    unfold fitD at h
    split at h
    case h_2 => cases h
    rename_i s1 t1 ho
    split at h <;> cases h
    rename_i hD
    obtain ⟨v, hv, _, rfl⟩ := hh
    obtain ⟨v', hv', hin⟩ := hs.obj _ _ _ ho
    rw [hv] at hv'
    obtain rfl := Option.some.inj hv'
    have hD := asD_ok hD
    subst hD
    have hb := mkD_back hin.ok
    refine ⟨v, _, ?_, hb, fun k hk => ⟨o, by simp, s1, _, v, ho, hv, hk⟩⟩
    obtain ⟨lh1, _, ⟨xs, ⟨_, hx⟩, _⟩, _⟩ := hb
    rcases hx with ⟨rfl, _⟩ | ⟨gg, o0, cp, cur, rfl, _⟩ <;> exact ⟨rfl, _, _, _, rfl⟩
  | .sl T e, .nil, x, os, cs, h, hh, _ => by
    cases h
    have hh' : cs = _ := hh
    subst hh'
    exact ⟨.slice none 0 0, fun _ => False, ⟨rfl, _, _, _, rfl⟩, ⟨[], fun _ _ => False, OwnM.nil F w T e.low, rfl, fun i h => absurd h (by simp), ⟨fun k => by simp [mine, Value.ownBlock], fun _ _ _ h => absurd h (by simp), fun _ _ h => absurd h (by simp)⟩⟩, fun _ h => h.elim⟩
  | .pair a b, t, x, os, cs, h, hh, hn => by
    unfold fitD at h
    split at h
    case h_2 => cases h
    rename_i t1 t2 hsp
    split at h
    case h_2 => cases h
    rename_i u os1 h1
    split at h
    case h_2 => cases h
    rename_i v os2 h2
    cases h
    obtain ⟨c1, c2, rfl, g1, g2, _⟩ := hh.split hsp
    obtain ⟨n1, n2, n3⟩ := List.nodup_append.1 hn
    obtain ⟨x1, S1, r1, e1, s1⟩ := fitD_ok hs h1 g1 n1
    obtain ⟨x2, S2, r2, e2, s2⟩ := fitD_ok hs h2 g2 n2
    refine ⟨(x1, x2), fun k => S1 k ∨ S2 k, ⟨c1, c2, rfl, r1, r2⟩, ⟨S1, S2, e1, e2, fun _ => Iff.rfl, fun k hk hk' => eaten_apart hs (fun o ho ho' => n3 o ho o ho' rfl) k (s1 k hk) (s2 k hk')⟩, fun k hk => hk.elim (fun hk => eaten_sub (fun o ho => by simp [ho]) k (s1 k hk)) fun hk => eaten_sub (fun o ho => by simp [ho]) k (s2 k hk)⟩
  | .sl _ _, .leaf _ _, _, _, _, h, _, _ => by cases h
  | .sl _ _, .pair _ _, _, _, _, h, _, _ => by cases h
  | .sl _ _, .view .., _, _, _, h, _, _ => by cases h

theorem fitsD_ok (hs : ObSat U H F w ob n) {d : DR} : {ds : List Desc} → {l : List d.row.den} → {os : List Nat} → {vs : List Value} → fitsD ob d ds = some (l, os) → DescsOK H F w ds vs → os.Nodup →
    ∃ (lh : List d.low.den) (Ss : Nat → Nat → Prop), Lits F w d.low vs lh ∧ lh.length = l.length ∧ (∀ i (h1 : i < lh.length) (h2 : i < l.length), DEl F w d lh[i] l[i] (Ss i)) ∧ (∀ i k, i < l.length → Ss i k → eaten H ob os k) ∧ ∀ i j k, i < l.length → j < l.length → i ≠ j → Ss i k → ¬ Ss j k
  | [], l, os, vs, h, hd, _ => by
    cases h
    rw [show vs = [] from hd]
    exact ⟨[], fun _ _ => False, .nil, rfl, fun i h => absurd h (by simp), fun _ _ h => absurd h (by simp), fun _ _ _ h => absurd h (by simp)⟩
  | .val _ u :: ds, l, os, vs, h, hd, hn => by
    obtain ⟨v, us, rfl, h1, h2⟩ := hd
    unfold fitsD at h
    split at h
    case h_2 => cases h
    rename_i x os1 hf
    split at h
    case h_2 => cases h
    rename_i xs os2 hg
    cases h
    obtain ⟨cs, hcs, hve⟩ := ValOK.cells h1
    obtain ⟨n1, n2, n3⟩ := List.nodup_append.1 hn
    obtain ⟨x', S, r1, e1, s1⟩ := fitD_ok hs hf hcs n1
    obtain ⟨lh, Ss, k1, k2, k3, k4, k5⟩ := fitsD_ok hs hg h2 n2
    have ap : ∀ i k, i < xs.length → S k → ¬ Ss i k := fun i k hi hk hk' => eaten_apart hs (fun o ho ho' => n3 o ho o ho' rfl) k (s1 k hk) (k4 i k hi hk')
    refine ⟨x' :: lh, fun i => match i with | 0 => S | i + 1 => Ss i, .cons hve r1 k1, by simp [k2], fun i a b => ?_, fun i k hi hk => ?_, fun i j k hi hj hne hk hk' => ?_⟩
    · cases i with
      | zero => exact e1
      | succ i => exact k3 i (by simpa using a) (by simpa using b)
    · cases i with
      | zero => exact eaten_sub (fun o ho => by simp [ho]) k (s1 k hk)
      | succ i => exact eaten_sub (fun o ho => by simp [ho]) k (k4 i k (by simpa using hi) hk)
    · cases i with
      | zero =>
        cases j with
        | zero => exact hne rfl
        | succ j => exact ap j k (by simpa using hj) hk hk'
      | succ i =>
        cases j with
        | zero => exact ap i k (by simpa using hi) hk' hk
        | succ j => exact k5 i j k (by simpa using hi) (by simpa using hj) (fun e => hne (by rw [e])) hk hk'
  | .dead :: _, _, _, _, h, _, _ => by cases h
  | .undef :: _, _, _, _, h, _, _ => by cases h
  | .ptr .. :: _, _, _, _, h, _, _ => by cases h
  | .at .. :: _, _, _, _, h, _, _ => by cases h
  | .elem .. :: _, _, _, _, h, _, _ => by cases h
  | .tup _ :: _, _, _, _, h, _, _ => by cases h
  | .dlm .. :: _, _, _, _, h, _, _ => by cases h
  | .fn .. :: _, _, _, _, h, _, _ => by cases h
  | .ifc .. :: _, _, _, _, h, _, _ => by cases h

/-- A new object with blocks of its own within. -/
theorem Post.newD (hs : ObSat U H F w ob n) {eat : List Nat} {t : Th} {v0 : Value} {S : Nat → Prop} (hb : t.base = t) (h1 : v0.oneCell' = true) {D : Desc} {v : Value}
    (hext : Ext (eaten H ob eat) w w') (hok : ThOK (((H.setSub n S).setCon n t).setVal n v0) F w' S v0 t) (hfp : ∀ k, fp S v0 t k → ¬ F k ∧ k < w'.heap.size ∧ (w.heap.size ≤ k ∨ eaten H ob eat k))
    (hd : DescOK (((H.setSub n S).setCon n t).setVal n v0) F w' D v) : PostE H F w ob n { dst := D, eat := eat, make := [(n, (n, t))] } v w' := by
  have hf := hs.fresh n (Nat.le_refl _) (by omega)
  have hsub : (((H.setSub n S).setCon n t).setVal n v0).sub n = S := by simp [Hist.setVal, Hist.setCon, Hist.setSub]
  refine ⟨((H.setSub n S).setCon n t).setVal n v0, F, ⟨(Hist.le_deep hf.2).trans (Hist.le_setVal (by simp [Hist.setCon, Hist.setSub, hf.1])), hext, fun _ h => h, fun _ h => .inl h, fun b hb => Nat.lt_of_lt_of_le (hs.lt b hb) hext.size⟩, fun m hm => ?_, hd, ⟨fun o' s' q hq => ?_, fun o1 o2 s1 s2 q1 q2 u1 u2 hne h1 h2 => ?_⟩, fun o' h => ?_⟩
  · simp [Hist.setCon, Hist.setVal, Hist.setSub, show m ≠ n from by omega]
  · obtain ⟨rfl, e⟩ := find_one hq
    obtain ⟨rfl, rfl⟩ := Prod.mk.inj e
    exact ⟨v0, by simp [Hist.setVal], h1, by simp [Hist.setCon, Hist.setVal, hb], by rw [hsub]; exact hok, by rw [hsub]; exact hfp⟩
  · exact absurd ((find_one h1).1.trans (find_one h2).1.symm) hne
  · right
    obtain ⟨y, hy⟩ := Option.isSome_iff_exists.1 h
    rw [(find_one hy).1]
    exact Nat.le_refl _

def drFirst (ob : Nat → Option (Nat × Th)) (r : Row) : List Desc → DR
  | .val _ u :: _ => drOf ob r u
  | _ => .leaf r
def eBuildD1 (e : TypeId) (dr : DR) (ob : Nat → Option (Nat × Th)) (n : Nat) (ds : List Desc) (k : Eff → Option R) : Option R :=
  match fitsD ob dr ds with
  | some (l, os) => bif nodupL os then k { dst := .val false (.own n), eat := os, make := [(n, (n, mkD e dr l))] } else none
  | none => none
def eBuildD (T : Tabs P) (rd : Operand → Option Desc) (ob : Nat → Option (Nat × Th)) (n : Nat) (t : TypeId) (m : Nat) (parts : Array (Nat × Operand)) (k : Eff → Option R) : Option R :=
  match find T.und t with
  | some (.slice e) => match find T.row e with
    | some r => bif idxOK 0 parts.toList && Nat.beq m parts.toList.length && Nat.ble (m * r.size) 16777216 then
        (match descs rd (parts.toList.map (·.2)) with
        | some ds => bif (drFirst ob r ds).row.beq r then eBuildD1 e (drFirst ob r ds) ob n ds k else none
        | none => none) else none
    | none => none
  | _ => none

theorem eBuildD_ok (T : Tabs P) {rd : Operand → Option Desc} (hrd : ∀ x d, rd x = some d → DescOK H F w d (ev ρ x)) {t : TypeId} {m : Nat} {parts : Array (Nat × Operand)} {k : Eff → Option R} {q : R} (h : eBuildD T rd ob n t m parts k = some q) (hs : ObSat U H F w ob n) :
    ∃ e, k e = some q ∧ Says P U H F w ρ ob n ⟨some d, .buildSlice t m parts, ty, pos, aft, none⟩ e := by
  unfold eBuildD at h
  split at h
  case h_2 => cases h
  rename_i e hu
  split at h
  case h_2 => cases h
  rename_i r hr
  obtain ⟨c0, h8⟩ := bif_eq h
  clear h
  obtain ⟨c1, c3⟩ := and2 c0
  obtain ⟨h1, c2⟩ := and2 c1
  have h2 := beq_true c2
  have h3 : m * r.size ≤ 16777216 := by simpa using c3
  clear c0 c1 c2 c3
  split at h8
  case h_2 => cases h8
  rename_i ds hds
  obtain ⟨hdr0, h⟩ := bif_eq h8
  clear h8
  have hdr := Row.eq_of_beq hdr0
  clear hdr0
  obtain ⟨dr, hdd⟩ : ∃ dr, dr = drFirst ob r ds := ⟨_, rfl⟩
  rw [← hdd] at h hdr
  clear hdd
  subst hdr
  unfold eBuildD1 at h
  split at h
  case h_2 => cases h
  rename_i l os hl
  obtain ⟨hn, hk⟩ := bif_eq h
  clear h
  obtain ⟨lh, Ss, k1, k2, k3, k4, k5⟩ := fitsD_ok hs hl (descs_ok hrd hds) (nodupL_ok hn)
  have hp : parts = (((parts.toList.map (·.2)).zipIdx).map fun p => (p.2, p.1)).toArray := by
    rw [← idxOK_ok h1, Array.toArray_toList]
  have hm : m = (parts.toList.map (·.2)).length := by simpa using h2
  obtain ⟨v, w', hrun, hext, hown, hnew⟩ := run_build0 (d := d) (ty := ty) (pos := pos) (aft := aft) (T.und_ok _ _ hu) (TI.low (T.row_ok _ _ hr)) hp (by rw [← hm, DR.size]; exact h3) k1 hs
  rw [← hm] at hrun
  refine ⟨_, hk, RunsTo.val hrun ?_⟩
  have hlt : ∀ i k, i < l.length → Ss i k → k < w.heap.size := fun i k hi hk => hs.eaten_lt k (k4 i k hi hk)
  have hst : Step F w F w' := fun b hb => ⟨hb, (hext fun _ => False).block b (hs.lt b hb) fun h => h⟩
  have hparts : Parts Ss l.length (mine v) (sumP (mine v) Ss l.length) := ⟨fun _ => Iff.rfl, k5, fun i k hi hk hm => by have := hlt i k hi hk; have := hnew k hm; omega⟩
  have hel : DEl F w' (.sl e dr) v l (sumP (mine v) Ss l.length) := ⟨lh, Ss, hown.2, k2, fun i a b => (k3 i a b).keep hst fun k hk => (hext fun _ => False).block k (hlt i k b hk) fun h => h, hparts⟩
  have hfp : ∀ k, sumP (mine v) Ss l.length k → ¬ F k ∧ k < w'.heap.size ∧ (w.heap.size ≤ k ∨ eaten H ob os k) := by
    rintro k (hk | ⟨i, hi, hk⟩)
    · exact ⟨hown.1 k hk, hown.lt k hk, .inl (hnew k hk)⟩
    · have := k4 i k hi hk
      exact ⟨hs.eaten_no k this, Nat.lt_of_lt_of_le (hs.eaten_lt k this) (hext fun _ => False).size, .inr this⟩
  refine Post.newD (S := sumP (mine v) Ss l.length) (v0 := v) hs (mkD_base ..) (own_one hown) (hext _) (mkD_ok hel).1 (fun k hk => hfp k ((mkD_ok (H := H) hel).2.1 k hk)) (own_dst (by simp [Hist.setVal]) (own_one hown))

/-! ## make of slices of slices -/
def eMakeD (T : Tabs P) (n : Nat) (t : TypeId) (same : Bool) (a b : Int) (k : Eff → Option R) : Option R :=
  match find T.und t with
  | some (.slice e) => match find T.row e with
    | some (.slice r) => match find T.und e with
      | some (.slice e') => (bif same then mkL a ([] : List r.den) else mkC a b ([] : List r.den)).bind fun l => k { dst := .val false (.own n), make := [(n, (n, .deep e (.sl e' (.leaf r)) l none))] }
      | _ => none
    | _ => eMake T n t same a b k
  | _ => none
theorem made_deep {e e' t : TypeId} {r : Row} {a b : Int} (ht : P.underlying t = some (.slice e)) (hti : TI P e (.slice r)) (hs : ObSat U H F w ob n) {ka kb : IntKind} {x y : Operand} (hx : ev ρ x = .int ka a) (hy : ev ρ y = .int kb b) (h0 : 0 ≤ a) (h1 : a ≤ b) (h2 : b ≤ 4294967296) :
    Says P U H F w ρ ob n ⟨some d, .makeSlice t x y, ty, pos, aft, none⟩ { dst := .val false (.own n), make := [(n, (n, .deep e (.sl e' (.leaf r)) (List.replicate a.toNat ([] : List r.den)) none))] } := by
  obtain ⟨v, w', hrun, hext, hown, hnew⟩ := run_make0 (d := d) (ty := ty) (pos := pos) (aft := aft) (r := .hdr) ht (TI.low (d := .sl e' (.leaf r)) hti) hs hx hy h0 h1 h2
  have hel : DEl F w' (.sl e (.sl e' (.leaf r))) v (List.replicate a.toNat ([] : List r.den)) (mine v) := by
    refine ⟨List.replicate a.toNat (Value.slice none 0 0), fun _ _ => False, hown.2, by simp, fun i h1 h2 => ?_, ⟨fun k => by simp, fun _ _ _ _ _ _ h => h.elim, fun _ _ _ h => h.elim⟩⟩
    simp only [List.getElem_replicate]
    exact ⟨[], fun _ _ => False, OwnM.nil F w' e' r, rfl, fun i h => absurd h (by simp), ⟨fun k => by simp [mine, Value.ownBlock], fun _ _ _ h => absurd h (by simp), fun _ _ h => absurd h (by simp)⟩⟩
  refine RunsTo.val hrun (Post.newD (S := mine v) (v0 := v) (eat := []) (t := mkD e (.sl e' (.leaf r)) (List.replicate a.toNat ([] : List r.den))) hs (mkD_base ..) (own_one hown) (hext _) (mkD_ok hel).1 (fun k hk => ?_) (own_dst (by simp [Hist.setVal]) (own_one hown)))
  have hk := (mkD_ok (H := H) hel).2.1 k hk
  exact ⟨hown.1 k hk, hown.lt k hk, .inl (hnew k hk)⟩
theorem eMakeD_ok (T : Tabs P) {t : TypeId} {a b : Int} {ka kb : IntKind} {x y : Operand} {k : Eff → Option R} {q : R} (h : eMakeD T n t (sameOp x y) a b k = some q) (hs : ObSat U H F w ob n) (hx : ev ρ x = .int ka a) (hy : ev ρ y = .int kb b) :
    ∃ e, k e = some q ∧ Says P U H F w ρ ob n ⟨some d, .makeSlice t x y, ty, pos, aft, none⟩ e := by
  unfold eMakeD at h
  split at h
  case h_2 => cases h
  rename_i e hu
  split at h
  case h_2 => exact eMake_ok T h hs hx hy
  rename_i r hr
  split at h
  case h_2 => cases h
  rename_i e' hu'
  obtain ⟨l, hl, hk⟩ := bind_some h
  have hti := T.row_ok _ _ hr
  have ht := T.und_ok _ _ hu
  cases hsm : sameOp x y with
  | true =>
    rw [hsm, cond_true] at hl
    unfold mkL at hl
    split at hl
    case isFalse => cases hl
    rename_i hc
    obtain rfl := Option.some.inj hl
    obtain rfl := sameOp_ok hsm hx hy
    exact ⟨_, hk, made_deep ht hti hs hx hy hc.1 (Int.le_refl _) hc.2⟩
  | false =>
    rw [hsm, cond_false] at hl
    unfold mkC at hl
    split at hl
    case isFalse => cases hl
    rename_i hc
    obtain rfl := Option.some.inj hl
    exact ⟨_, hk, made_deep ht hti hs hx hy hc.1 hc.2.1 hc.2.2⟩
def eMakeX (deep : Bool) (T : Tabs P) (n : Nat) (t : TypeId) (same : Bool) (a b : Int) (k : Eff → Option R) : Option R :=
  match deep with
  | true => eMakeD T n t same a b k
  | false => eMake T n t same a b k
theorem eMakeX_ok (deep : Bool) (T : Tabs P) {t : TypeId} {a b : Int} {ka kb : IntKind} {x y : Operand} {k : Eff → Option R} {q : R} (h : eMakeX deep T n t (sameOp x y) a b k = some q) (hs : ObSat U H F w ob n) (hx : ev ρ x = .int ka a) (hy : ev ρ y = .int kb b) :
    ∃ e, k e = some q ∧ Says P U H F w ρ ob n ⟨some d, .makeSlice t x y, ty, pos, aft, none⟩ e := by
  cases deep with
  | true => exact eMakeD_ok T h hs hx hy
  | false => exact eMake_ok T h hs hx hy

/-! ## Either way -/
def eLoadX (T : Tabs P) (ob : Nat → Option (Nat × Th)) (n : Nat) (t : TypeId) (D : Desc) (k : Eff → Option R) : Option R :=
  match D with
  | .dlm .. => eLoadD T ob n t D k
  | _ => eLoad T ob t D k
theorem eLoadX_ok (T : Tabs P) {t : TypeId} {D : Desc} {x : Operand} {k : Eff → Option R} {q : R} (h : eLoadX T ob n t D k = some q) (hs : ObSat U H F w ob n) (hx : DescOK H F w D (ev ρ x)) :
    ∃ e, k e = some q ∧ Says P U H F w ρ ob n ⟨some d, .load t x, ty, pos, aft, none⟩ e := by
  unfold eLoadX at h
  split at h
  · exact eLoadD_ok T h hs hx
  · exact eLoad_ok T h hs hx
noncomputable def eStoreX (T : Tabs P) (ob : Nat → Option (Nat × Th)) (n : Nat) (t : TypeId) (D V : Desc) (k : Eff → Option R) : Option R :=
  match D with
  | .dlm .. => eStoreD T ob n t D V k
  | _ => eStore T ob n t D V k
theorem eStoreX_ok (T : Tabs P) {t : TypeId} {D V : Desc} {x y : Operand} {k : Eff → Option R} {q : R} (h : eStoreX T ob n t D V k = some q) (hs : ObSat U H F w ob n) (hx : DescOK H F w D (ev ρ x)) (hy : DescOK H F w V (ev ρ y)) :
    ∃ e, k e = some q ∧ Says P U H F w ρ ob n ⟨none, .store t x y, ty, pos, aft, none⟩ e := by
  unfold eStoreX at h
  split at h
  · exact eStoreD_ok T h hs hx hy
  · exact eStore_ok T h hs hx hy
def eBuildX (deep : Bool) (T : Tabs P) (rd : Operand → Option Desc) (ob : Nat → Option (Nat × Th)) (n : Nat) (t : TypeId) (m : Nat) (parts : Array (Nat × Operand)) (k : Eff → Option R) : Option R :=
  match deep with
  | true => eBuildD T rd ob n t m parts k
  | false => eBuildSlice T rd ob n t m parts k
theorem eBuildX_ok (deep : Bool) (T : Tabs P) {rd : Operand → Option Desc} (hrd : ∀ x d, rd x = some d → DescOK H F w d (ev ρ x)) {t : TypeId} {m : Nat} {parts : Array (Nat × Operand)} {k : Eff → Option R} {q : R} (h : eBuildX deep T rd ob n t m parts k = some q) (hs : ObSat U H F w ob n) :
    ∃ e, k e = some q ∧ Says P U H F w ρ ob n ⟨some d, .buildSlice t m parts, ty, pos, aft, none⟩ e := by
  cases deep with
  | true => exact eBuildD_ok T hrd h hs
  | false => exact eBuildSlice_ok T hrd h hs
end
end Go.Proofs.YtjeeligfdpociaaGreat
