/- Maps: made, looked up, changed. -/
import Derived.Test.YtjeeligfdpociaaGreatEffs4
import Derived.Carry
namespace Go.Proofs.YtjeeligfdpociaaGreat
open Go Go.RowKit Go.MapKept

/-! ## Maps as lists of entries -/
noncomputable def lookA {α : Type} (K : Row) : List (K.den × α) → K.den → Option α
  | [], _ => none
  | p :: l, k => if keyEq K p.1 k = true then some p.2 else lookA K l k
noncomputable def putA {α : Type} (K : Row) : List (K.den × α) → K.den → α → List (K.den × α)
  | [], k, v => [(k, v)]
  | p :: l, k, v => if keyEq K p.1 k = true then (p.1, v) :: l else p :: putA K l k v

theorem keyEq_iff {K : Row} {a b : K.den} {u v : Value} (ha : keyV K a = some u) (hb : keyV K b = some v) : keyEq K a b = true ↔ u = v := by
  unfold keyV at ha
  split at ha <;> first | cases ha | skip
  all_goals
    simp only [keyV, Option.some.injEq] at hb
    subst hb
    simp [keyEq]

def keyOK {P : Program} (T : Tabs P) (kt : TypeId) : Row → Bool
  | .int k => match find T.und kt with
    | some (.int k') => decide (k = k')
    | _ => false
  | .bool => match find T.und kt with
    | some .bool => true
    | _ => false
  | .str => match find T.und kt with
    | some .str => true
    | _ => false
  | _ => false

section
variable {P : Program} {ρ : Nat → Value} {w w' : World} {H H' : Hist} {F F' : Nat → Prop} {U : Nat → Prop} {ob : Nat → Option (Nat × Th)} {n : Nat} {R : Type}
variable {op : Op} {ty : TypeId} {pos : String} {aft : Array Edge} {d : Nat}

theorem keyOK_ok (T : Tabs P) {kt : TypeId} {K : Row} (h : keyOK T kt K = true) : ∃ d, P.underlying kt = some d ∧ (∀ x v, keyV K x = some v → IsKey d v) ∧ (∀ x v, Rep F w K [v] x → keyV K x = some v) := by
  unfold keyOK at h
  split at h
  · split at h
    · rename_i k _ k' hu
      obtain rfl := of_decide_eq_true h
      refine ⟨_, T.und_ok _ _ hu, fun x v hx => ?_, fun x v hr => ?_⟩
      · obtain rfl := Option.some.inj hx; rfl
      · have hr' : [v] = [Value.int k x] := hr
        simp only [List.cons.injEq, and_true] at hr'
        rw [hr']; rfl
    · cases h
  · split at h
    · rename_i hu
      refine ⟨_, T.und_ok _ _ hu, fun x v hx => ?_, fun x v hr => ?_⟩
      · obtain rfl := Option.some.inj hx; trivial
      · have hr' : [v] = [Value.bool x] := hr
        simp only [List.cons.injEq, and_true] at hr'
        rw [hr']; rfl
    · cases h
  · split at h
    · rename_i hu
      refine ⟨_, T.und_ok _ _ hu, fun x v hx => ?_, fun x v hr => ?_⟩
      · obtain rfl := Option.some.inj hx; trivial
      · have hr' : [v] = [Value.string x] := hr
        simp only [List.cons.injEq, and_true] at hr'
        rw [hr']; rfl
    · cases h
  · cases h

theorem find_ents {K : Row} {agg : Bool} {V : Row} {dd : TypeDesc} {x : K.den} {kv : Value} (hK : ∀ x v, keyV K x = some v → IsKey dd v) (hx : keyV K x = some kv) : {es : List MapEntry} → {l : List (K.den × V.den)} → (i : Nat) → Ents H F w K agg V es l →
    (Instr.findNow dd kv es i = some none ∧ lookA K l x = none ∧ (∀ e ∈ es, e.key ≠ kv) ∧ ∀ H' F' w' y (e : MapEntry), e.key = kv → H.le H' → Step F w F' w' → ValOK H' F' w' agg (.leaf V y) e.val → Ents H' F' w' K agg V (es ++ [e]) (putA K l x y)) ∨
    ∃ j e y, Instr.findNow dd kv es i = some (some (i + j, e.val)) ∧ es[j]? = some e ∧ e.key = kv ∧ lookA K l x = some y ∧ ValOK H F w agg (.leaf V y) e.val ∧
      ∀ H' F' w' y (f : MapEntry → MapEntry), (f e).key = kv → H.le H' → Step F w F' w' → ValOK H' F' w' agg (.leaf V y) (f e).val → Ents H' F' w' K agg V (es.modify j f) (putA K l x y)
  | [], l, i, h => by
    obtain rfl : l = [] := h
    refine .inl ⟨rfl, rfl, by simp, fun H' F' w' y e he hH hs hv => ⟨x, y, [], rfl, by rw [he]; exact hx, hv, rfl⟩⟩
  | e :: es, l, i, h => by
    obtain ⟨k, y, l', rfl, h1, h2, h3⟩ := h
    obtain ⟨r, hr, hiff⟩ := sameNow_of_keys (hK x kv hx) (hK k _ h1)
    have hkk := keyEq_iff h1 hx
    cases r with
    | true =>
      have hke : kv = e.key := hiff.1 rfl
      have hq : keyEq K k x = true := hkk.2 hke.symm
      refine .inr ⟨0, e, y, by simp [Instr.findNow, hr], rfl, hke.symm, by simp [lookA, hq], h2, fun H' F' w' y' f hf hH hs hv => ?_⟩
      refine ⟨k, y', l', by simp [putA, hq], ?_, hv, h3.keep hH hs⟩
      show keyV K k = some (f e).key
      rw [hf, h1, hke]
    | false =>
      have hne : ¬ e.key = kv := fun q => by have := hiff.2 q.symm; cases this
      have hq : ¬ keyEq K k x = true := fun q => hne (hkk.1 q)
      rcases find_ents hK hx (i + 1) h3 with ⟨a1, a2, a3, a4⟩ | ⟨j, e', z, a1, a2, a3, a4, a5, a6⟩
      · refine .inl ⟨by simp [Instr.findNow, hr, a1], by simp [lookA, hq, a2], fun e' he' => ?_, fun H' F' w' y' e' he' hH hs hv => ?_⟩
        · rcases List.mem_cons.1 he' with rfl | he'
          · exact hne
          · exact a3 e' he'
        · exact ⟨k, y, _, by simp [putA, hq], h1, h2.keep hH hs, a4 H' F' w' y' e' he' hH hs hv⟩
      · refine .inr ⟨j + 1, e', z, by simp [Instr.findNow, hr, a1]; omega, by simpa using a2, a3, by simp [lookA, hq, a4], a5, fun H' F' w' y' f hf hH hs hv => ?_⟩
        refine ⟨k, y, _, by simp [putA, hq], ?_, ?_, a6 H' F' w' y' f hf hH hs hv⟩
        · exact h1
        · exact h2.keep hH hs

/-- A key, read. -/
noncomputable def asKey (ob : Nat → Option (Nat × Th)) (K : Row) : Desc → Option K.den
  | .val false t => flat ob K t
  | _ => none
theorem asKey_ok (hs : ObSat U H F w ob n) {K : Row} {D : Desc} {x : K.den} {v : Value} (h : asKey ob K D = some x) (hd : DescOK H F w D v) : Rep F w K [v] x := by
  unfold asKey at h
  split at h
  · obtain ⟨cs, h1, _, h3⟩ := hd
    rw [h3 rfl] at h1
    exact flat_ok hs h h1
  · cases h

def asMap (ob : Nat → Option (Nat × Th)) : Desc → Option (Nat × Nat × Th)
  | .val false (.own o) => match ob o with
    | some (s, .map T K agg V l) => some (o, s, .map T K agg V l)
    | _ => none
  | _ => none
theorem asMap_ok (hs : ObSat U H F w ob n) {D : Desc} {o s : Nat} {t : Th} {v : Value} (h : asMap ob D = some (o, s, t)) (hd : DescOK H F w D v) : ∃ T K agg V l b es clock, t = .map T K agg V l ∧ ob o = some (s, t) ∧ H.val o = some v ∧ v = .map (some b) ∧
    w.heap[b]? = some (.map es clock) ∧ Stamped es clock ∧ Ents H F w K agg V es.toList l := by
  unfold asMap at h
  split at h
  · rename_i o'
    split at h
    · rename_i s' T K agg V l hob
      simp only [Option.some.injEq, Prod.mk.injEq] at h
      obtain ⟨rfl, rfl, rfl⟩ := h
      obtain ⟨cs, ⟨u, hu, _, e⟩, _, h3⟩ := hd
      rw [h3 rfl] at e
      obtain rfl : v = u := by simpa using e
      obtain ⟨v', hv', hin⟩ := hs.obj _ _ _ hob
      rw [hu] at hv'
      obtain rfl := Option.some.inj hv'
      obtain ⟨b, es, clock, e, h1, h2, h3⟩ := hin.ok
      exact ⟨T, K, agg, V, l, b, es, clock, rfl, hob, hu, e, h1, h2, h3⟩
    · cases h
  · cases h

/-! ## Made -/
def eMakeMap (T : Tabs P) (n : Nat) (t : TypeId) (k : Eff → Option R) : Option R :=
  match find T.und t with
  | some (.map kt vt) => match find T.row kt with
    | some K => match find T.row vt with
      | some V => match find T.und vt with
        | some kk => k { dst := .val false (.own n), make := [(n, (n, .map t K (aggK kk) V []))] }
        | none => none
      | none => none
    | none => none
  | _ => none
theorem eMakeMap_ok (T : Tabs P) {t : TypeId} {k : Eff → Option R} {q : R} (h : eMakeMap T n t k = some q) (hs : ObSat U H F w ob n) :
    ∃ e, k e = some q ∧ Says P U H F w ρ ob n ⟨some d, .makeMap t none, ty, pos, aft, none⟩ e := by
  unfold eMakeMap at h
  split at h
  case h_2 => cases h
  split at h
  case h_2 => cases h
  rename_i K _
  split at h
  case h_2 => cases h
  rename_i V _
  split at h
  case h_2 => cases h
  rename_i kk _
  have hrun : (execOp (ev ρ) ⟨some d, .makeMap t none, ty, pos, aft, none⟩).run P w = .ok (.value (.map (some w.heap.size))) (w.alloc (.map #[] 0)) := by
    simp [execOp, Instr.makeMap, Result.andThen]
  refine ⟨_, h, RunsTo.val hrun ?_⟩
  have hv : ((H.setCon n (.map t K (aggK kk) V [])).setVal n (.map (some w.heap.size))).val n = some (.map (some w.heap.size)) := by simp [Hist.setVal]
  refine Post.new (v0 := .map (some w.heap.size)) hs rfl rfl (ext_alloc _) ⟨_, #[], 0, rfl, (heap_alloc w _).1, stamped_empty 0, rfl⟩ (fun k hk => ?_) (own_dst hv rfl)
  simp only [fp, Value.map.injEq, Option.some.injEq] at hk
  subst hk
  exact ⟨fun e => by have := hs.lt _ e; omega, by simp, .inl (Nat.le_refl _)⟩

/-! ## Changed -/
noncomputable def eMapUpdate (T : Tabs P) (ob : Nat → Option (Nat × Th)) (n : Nat) (t : TypeId) (M X Y : Desc) (k : Eff → Option R) : Option R :=
  match find T.und t with
  | some (.map kt _) => match asMap ob M with
    | some (o, _, .map T0 K agg V l) => bif keyOK T kt K then (match asKey ob K X with
      | some x => match Y with
        | .val agg' tr => bif (bif agg then agg' else !agg') then (match flat ob V tr with
          | some y => k { dst := .dead, eat := [o], make := [(o, (n, .map T0 K agg V (putA K l x y)))] }
          | none => none) else none
        | _ => none
      | none => none) else none
    | _ => none
  | _ => none

theorem run_mapUpdate_ok {mty kt et : TypeId} {dd : TypeDesc} {b clock : Nat} {es : Array MapEntry} {key val : Value} (hm : P.underlying mty = some (.map kt et)) (hd : P.underlying kt = some dd) (hb : w.heap[b]? = some (.map es clock)) (hk : IsKey dd key) :
    (Instr.findNow dd key es.toList 0 = some none → (Instr.mapUpdate mty (.map (some b)) key val).run P w = .ok () { w with heap := w.heap.setIfInBounds b (.map (es.push { key, val, born := clock }) (clock + 1)) }) ∧
    (∀ j e, Instr.findNow dd key es.toList 0 = some (some (j, e)) → ((es[j]?).map (·.key)).getD key = key → (Instr.mapUpdate mty (.map (some b)) key val).run P w = .ok () { w with heap := w.heap.setIfInBounds b (.map (es.modify j fun e => { e with key, val }) clock) }) := by
  refine ⟨fun h1 => ?_, fun j e h1 h2 => ?_⟩
  · simp [Instr.mapUpdate, run_underlying hm, MapKept.run_getObj_map hb, MapKept.run_checkKey hd hk, MapKept.run_findKey hd h1, MapKept.run_setObj_map _ hb, Result.andThen]
  · simp [Instr.mapUpdate, run_underlying hm, MapKept.run_getObj_map hb, MapKept.run_checkKey hd hk, MapKept.run_findKey hd h1, h2, run_keyThatStays hk, MapKept.run_setObj_map _ hb, Result.andThen]

theorem eMapUpdate_ok (T : Tabs P) {t : TypeId} {M X Y : Desc} {m x y : Operand} {k : Eff → Option R} {q : R} (h : eMapUpdate T ob n t M X Y k = some q) (hs : ObSat U H F w ob n) (hm : DescOK H F w M (ev ρ m)) (hx : DescOK H F w X (ev ρ x)) (hy : DescOK H F w Y (ev ρ y)) :
    ∃ e, k e = some q ∧ Says P U H F w ρ ob n ⟨none, .mapUpdate t m x y, ty, pos, aft, none⟩ e := by
  unfold eMapUpdate at h
  split at h
  case h_2 => cases h
  rename_i kt vt hu
  split at h
  case h_2 => cases h
  rename_i o s T0 K agg V l hmap
  obtain ⟨hk, h'⟩ := bif_eq h
  clear h
  split at h'
  case h_2 => cases h'
  rename_i a ha
  split at h'
  case h_2 => cases h'
  rename_i agg' tr
  obtain ⟨hagg, h⟩ := bif_eq h'
  clear h'
  have hagg : agg = agg' := by cases agg <;> cases agg' <;> simp_all
  subst hagg
  split at h
  case h_2 => cases h
  rename_i b hb
  refine ⟨_, h, ?_⟩
  obtain ⟨dd, hd, hK, hR⟩ := keyOK_ok (F := F) (w := w) T hk
  obtain ⟨T1, K1, agg1, V1, l1, r, es, clock, e0, hob, hv, hv2, hh, hst, hen⟩ := asMap_ok hs hmap hm
  cases e0
  have hkey := hR _ _ (asKey_ok hs ha hx)
  have hval : ValOK H F w agg (.leaf V b) (ev ρ y) := by
    obtain ⟨cs, h1, h2⟩ := hy
    exact ⟨cs, flat_ok hs hb h1, h2⟩
  have hrlt : r < w.heap.size := (Array.getElem?_eq_some_iff.1 hh).1
  have fin : ∀ o', (Instr.mapUpdate t (.map (some r)) (ev ρ x) (ev ρ y)).run P w = .ok () { w with heap := w.heap.setIfInBounds r o' } →
      (∀ w', (∀ k, k ≠ r → w'.heap[k]? = w.heap[k]?) → ∃ es' clock', o' = .map es' clock' ∧ Stamped es' clock' ∧ Ents (H.setCon n (.map T0 K agg V (putA K l a b))) F w' K agg V es'.toList (putA K l a b)) →
      Says P U H F w ρ ob n ⟨none, .mapUpdate t m x y, ty, pos, aft, none⟩ { dst := .dead, eat := [o], make := [(o, (n, .map T0 K agg V (putA K l a b)))] } := by
    intro o' hrun hen'
    refine RunsTo.unit (w' := { w with heap := w.heap.setIfInBounds r o' }) ?_ ?_
    · simp [execOp, hv2, hrun, Result.andThen]
    · have hother : ∀ k, k ≠ r → (w.heap.setIfInBounds r o')[k]? = w.heap[k]? := (heap_set hh).2
      obtain ⟨es', clock', rfl, g1, g2⟩ := hen' { w with heap := w.heap.setIfInBounds r o' } hother
      refine Post.inplace (t' := .map T0 K agg V (putA K l a b)) (w' := { w with heap := w.heap.setIfInBounds r (.map es' clock') }) hs hob hv rfl (fun k hk => hk) ⟨rfl, rfl, rfl, by simp, fun k hk hn => hother k fun e => hn (by subst e; exact hv2)⟩ ⟨r, es', clock', hv2, (heap_set hh).1, g1, g2⟩ trivial
  have hHle : H.le (H.setCon n (.map T0 K agg V (putA K l a b))) := Hist.le_setCon (hs.fresh n (Nat.le_refl _) (by omega)).2
  have hstep : ∀ w' : World, (∀ k, k ≠ r → w'.heap[k]? = w.heap[k]?) → Step F w F w' := by
    intro w' hw b hb
    refine ⟨hb, hw b fun e => ?_⟩
    subst e
    obtain ⟨v', hv', hin⟩ := hs.obj _ _ _ hob
    rw [hv] at hv'
    obtain rfl := Option.some.inj hv'
    exact hin.no b hv2 hb
  obtain ⟨r1, r2⟩ := run_mapUpdate_ok (val := ev ρ y) (T.und_ok _ _ hu) hd hh (hK _ _ hkey)
  rcases find_ents hK hkey 0 hen with ⟨a1, a2, a3, a4⟩ | ⟨j, e, z, a1, a2, a3, a4, a5, a6⟩
  · refine fin _ (r1 a1) fun w' hw => ⟨_, _, rfl, stamped_push hst a3, ?_⟩
    rw [Array.toList_push]
    exact a4 _ F w' b _ rfl hHle (hstep w' hw) (hval.keep hHle (hstep w' hw))
  · rw [Nat.zero_add] at a1
    have hj : es[j]? = some e := by simpa using a2
    refine fin _ (r2 j _ a1 (by rw [hj]; exact a3)) fun w' hw => ⟨_, _, rfl, stamped_modify hst _ _ (fun _ _ => rfl) (fun e' _ he' => ?_), ?_⟩
    · rw [hj] at he'; cases he'; exact a3.symm
    · rw [Array.toList_modify]
      exact a6 _ F w' b _ rfl hHle (hstep w' hw) (hval.keep hHle (hstep w' hw))

/-! ## Looked up -/
theorem zero_run {t : TypeId} {agg : Bool} {V : Row} (h : ZeroOK P t agg V) (h1 : agg = false → V.size = 1) : ∃ z, (zeroValue t).run P w = .ok z w ∧ ValOK H F w agg (.leaf V V.zero) z := by
  obtain ⟨z, hz, e⟩ := h
  cases hi : P.info? t with
  | none => rw [hi] at hz; cases hz
  | some ti =>
    rw [hi] at hz
    refine ⟨z, ?_, V.zeros, Rep.zero F w V, e, fun ha => ?_⟩
    · have hz' : ti.zero = some z := hz
      simp [zeroValue, typeInfo, hi, hz', Result.andThen]
    · have hl : V.zeros.length = V.size := (Rep.zero F w V).length
      rw [h1 ha] at hl
      subst ha
      rw [cond_false] at e
      match hv : V.zeros, hl with
      | [u], _ => rw [hv] at e; rw [e]; rfl

/-- Entries one by one. -/
theorem ents_of {K : Row} {agg : Bool} {V : Row} : {es : List MapEntry} → {l : List (K.den × V.den)} → es.length = l.length → (∀ i (h : i < l.length), ∃ (e : MapEntry) (cs : List Value), es[i]? = some e ∧ keyV K l[i].1 = some e.key ∧ Rep F w V cs l[i].2 ∧ e.val = (bif agg then .agg cs.toArray else cs.headD undef) ∧ (agg = false → cs = [e.val])) → Ents H F w K agg V es l
  | [], [], _, _ => rfl
  | [], _ :: _, h, _ => by cases h
  | _ :: _, [], h, _ => by cases h
  | e :: es, (k, x) :: l, hl, h => by
    obtain ⟨e', cs, h1, h2, h3, h4, h5⟩ := h 0 (by simp)
    obtain rfl : e = e' := by simpa using h1
    exact ⟨k, x, l, rfl, h2, ⟨cs, h3, h4, h5⟩, ents_of (by simpa using hl) fun i hi => by
      obtain ⟨e', cs', q1, q2, q3, q4⟩ := h (i + 1) (by simpa using hi)
      exact ⟨e', cs', by simpa only [List.getElem?_cons_succ] using q1, q2, q3, q4⟩⟩
theorem ents_to {K : Row} {agg : Bool} {V : Row} : {es : List MapEntry} → {l : List (K.den × V.den)} → Ents H F w K agg V es l → es.length = l.length ∧ ∀ i (h : i < l.length), ∃ (e : MapEntry) (cs : List Value), es[i]? = some e ∧ keyV K l[i].1 = some e.key ∧ Rep F w V cs l[i].2 ∧ e.val = (bif agg then .agg cs.toArray else cs.headD undef) ∧ (agg = false → cs = [e.val])
  | [], l, h => by obtain rfl : l = [] := h; exact ⟨rfl, fun i h => by simp at h⟩
  | e :: es, l, h => by
    obtain ⟨k, x, l', rfl, h1, ⟨cs, h2, h3, h4⟩, h5⟩ := h
    obtain ⟨g1, g2⟩ := ents_to h5
    refine ⟨by simp [g1], fun i hi => ?_⟩
    cases i with
    | zero => exact ⟨e, cs, rfl, h1, h2, h3, h4⟩
    | succ i =>
      obtain ⟨e', cs', q1, q2, q3, q4⟩ := g2 i (by simpa using hi)
      exact ⟨e', cs', by simpa only [List.getElem?_cons_succ] using q1, q2, q3, q4⟩

/-- A map, read: its rows and its entries. -/
structure MapR where
  K : Row
  agg : Bool
  V : Row
  l : List (K.den × V.den)
def asMapL (ob : Nat → Option (Nat × Th)) : Desc → Option MapR
  | .val false (.leaf (.map K agg V) l) => some ⟨K, agg, V, l⟩
  | .val false (.own o) => match ob o with
    | some (_, .map _ K agg V l) => some ⟨K, agg, V, l⟩
    | some (_, .fmap _ K agg V l) => some ⟨K, agg, V, l⟩
    | some (_, .fdmap _ K _ r l) => some ⟨K, false, .slice r, l⟩
    | _ => none
  | _ => none
theorem rep_map {K : Row} {agg : Bool} {V : Row} {l : List (K.den × V.den)} {v : Value} (h : Rep F w (.map K agg V) [v] l) : (v = .map none ∧ l = []) ∨ ∃ b es clock, v = .map (some b) ∧ w.heap[b]? = some (.map es clock) ∧ Stamped es clock ∧ Ents H F w K agg V es.toList l := by
  obtain ⟨u, e, h⟩ := h
  obtain rfl : v = u := by simpa using e
  refine h.imp id fun ⟨b, es, clock, h1, h2, h3, h4, h5, h6⟩ => ⟨b, es, clock, h1, h3, h4, ents_of (by simpa using h5) fun i hi => by simpa using h6 i hi⟩
theorem asMapL_ok (hs : ObSat U H F w ob n) {D : Desc} {m : MapR} {v : Value} (h : asMapL ob D = some m) (hd : DescOK H F w D v) : (v = .map none ∧ m.l = []) ∨ ∃ b es clock, v = .map (some b) ∧ w.heap[b]? = some (.map es clock) ∧ Stamped es clock ∧ Ents H F w m.K m.agg m.V es.toList m.l := by
  unfold asMapL at h
  split at h
  · cases h
    exact rep_map hd.inv
  · rename_i o
    obtain ⟨cs, ⟨u, hu, _, e⟩, _, h3⟩ := hd
    rw [h3 rfl] at e
    obtain rfl : v = u := by simpa using e
    split at h
    · rename_i s T K agg V l hob
      cases h
      obtain ⟨v', hv', hin⟩ := hs.obj _ _ _ hob
      rw [hu] at hv'
      obtain rfl := Option.some.inj hv'
      obtain ⟨b, es, clock, e, h1, h2, h3⟩ := hin.ok
      exact .inr ⟨b, es, clock, e, h1, h2, h3⟩
    · rename_i s T K agg V l hob
      cases h
      obtain ⟨v', hv', hin⟩ := hs.obj _ _ _ hob
      rw [hu] at hv'
      obtain rfl := Option.some.inj hv'
      exact rep_map hin.ok
    · rename_i s T K E r l hob
      cases h
      obtain ⟨v', hv', hin⟩ := hs.obj _ _ _ hob
      rw [hu] at hv'
      obtain rfl := Option.some.inj hv'
      exact rep_map (K := K) (agg := false) (V := .slice r) hin.ok
    · cases h
  · cases h

noncomputable def eLookup (T : Tabs P) (ob : Nat → Option (Nat × Th)) (t : TypeId) (ok : Bool) (M X : Desc) (k : Eff → Option R) : Option R :=
  match find T.und t with
  | some (.map kt vt) => match asMapL ob M with
    | some ⟨K, agg, V, l⟩ => match find T.zer vt with
      | some (agg', V') => bif keyOK T kt K && (bif agg then agg' else !agg') && V'.beq V && (agg || Nat.beq V.size 1) then (match asKey ob K X with
        | some x => bif ok then k { dst := .tup [(agg, .leaf V ((lookA K l x).getD V.zero)), (false, .leaf .bool (lookA K l x).isSome)] }
          else k { dst := .val agg (.leaf V ((lookA K l x).getD V.zero)) }
        | none => none) else none
      | none => none
    | none => none
  | _ => none

theorem eLookup_ok (T : Tabs P) {t : TypeId} {ok : Bool} {M X : Desc} {m x : Operand} {k : Eff → Option R} {q : R} (h : eLookup T ob t ok M X k = some q) (hs : ObSat U H F w ob n) (hm : DescOK H F w M (ev ρ m)) (hx : DescOK H F w X (ev ρ x)) :
    ∃ e, k e = some q ∧ Says P U H F w ρ ob n ⟨some d, .lookup t m x ok, ty, pos, aft, none⟩ e := by
  unfold eLookup at h
  split at h
  case h_2 => cases h
  rename_i kt vt hu
  split at h
  case h_2 => cases h
  rename_i K agg V l hmap
  split at h
  case h_2 => cases h
  rename_i agg' V' hz
  obtain ⟨hc, h'⟩ := bif_eq h
  clear h
  obtain ⟨hc, hc4⟩ := and2 hc
  obtain ⟨hc, hc3⟩ := and2 hc
  obtain ⟨hc1, hc2⟩ := and2 hc
  have hagg : agg = agg' := by cases agg <;> cases agg' <;> simp_all
  subst hagg
  obtain rfl := Row.eq_of_beq hc3
  split at h'
  case h_2 => cases h'
  rename_i a ha
  obtain ⟨dd, hd, hK, hR⟩ := keyOK_ok (F := F) (w := w) T hc1
  have hkey := hR _ _ (asKey_ok hs ha hx)
  have hsz : agg = false → V'.size = 1 := fun e => by subst e; exact beq_true (by simpa using hc4)
  obtain ⟨z, hz1, hz2⟩ := zero_run (w := w) (H := H) (F := F) (T.zer_ok _ _ _ hz) hsz
  have main : ∃ v, (Instr.lookup t (ev ρ m) (ev ρ x) ok).run P w = .ok (if ok then .tuple #[v, .bool (lookA K l a).isSome] else v) w ∧ ValOK H F w agg (.leaf V' ((lookA K l a).getD V'.zero)) v := by
    have hik := hK _ _ hkey
    have hu' := T.und_ok _ _ hu
    rcases asMapL_ok hs hmap hm with ⟨hv2, hl⟩ | ⟨r, es, clock, hv2, hh, hst, hen⟩
    · dsimp only at hl
      subst hl
      refine ⟨z, ?_, hz2⟩
      rw [hv2]
      have hf := MapKept.run_findKey (w := w) hd (show Instr.findNow dd (ev ρ x) [] 0 = some none from rfl)
      cases ok <;> simp [Instr.lookup, run_underlying hu', MapKept.run_checkKey hd hik, hf, hz1, lookA, Result.andThen]
    · dsimp only at hen
      rcases find_ents hK hkey 0 hen with ⟨a1, a2, _⟩ | ⟨j, e, y, a1, _, _, a4, a5, _⟩
      · refine ⟨z, ?_, by rw [a2]; exact hz2⟩
        rw [hv2, a2]
        simp [Instr.lookup, run_underlying hu', MapKept.run_getObj_map hh, MapKept.run_checkKey hd hik, MapKept.run_findKey hd a1, hz1, Result.andThen]
      · refine ⟨e.val, ?_, by rw [a4]; exact a5⟩
        rw [hv2, a4]
        simp [Instr.lookup, run_underlying hu', MapKept.run_getObj_map hh, MapKept.run_checkKey hd hik, MapKept.run_findKey hd a1, Result.andThen]
  obtain ⟨v, hrun, hok⟩ := main
  cases ok with
  | true =>
    refine ⟨_, h', says_pure hs (v := .tuple #[v, .bool (lookA K l a).isSome]) (by simp [execOp, hrun, Result.andThen]) ⟨[v, .bool (lookA K l a).isSome], rfl, _, _, rfl, hok, _, _, rfl, ValOK.mkBool .., rfl⟩⟩
  | false => exact ⟨_, h', says_pure hs (v := v) (by simp [execOp, hrun, Result.andThen]) hok⟩

/-! ## Index of a value: a string's byte, an array's element -/
def byteA (s : ByteArray) (i : Int) : Option Int := (if 0 ≤ i then s[i.toNat]? else none).map fun b => (b.toNat : Int)

theorem arrL_rep {e : Row} : {m : Nat} → {r : Row} → {x : r.den} → {l : List e.den} → {cs : List Value} → arrL m r x e = some l → Rep F w r cs x → l.length = m ∧ cs.length = m * e.size ∧ ∀ i (h : i < l.length), Rep F w e ((cs.drop (i * e.size)).take e.size) l[i]
  | 0, r, x, l, cs, h, _ => by unfold arrL at h; cases h
  | 1, r, x, l, cs, h, ha => by
    unfold arrL at h
    split at h
    case isFalse => cases h
    rename_i hb
    obtain rfl := Row.eq_of_beq hb
    obtain rfl := Option.some.inj h
    have hl := ha.length
    refine ⟨rfl, by simp [hl], fun i hi => ?_⟩
    obtain rfl : i = 0 := by simp at hi; omega
    rw [Nat.zero_mul, List.drop_zero, ← hl, List.take_length]
    exact ha
  | m + 2, .pair a b, x, l, cs, h, ha => by
    unfold arrL at h
    split at h
    case isFalse => cases h
    rename_i hb
    obtain rfl := Row.eq_of_beq hb
    split at h
    case h_2 => cases h
    rename_i l' hl
    obtain rfl := Option.some.inj h
    obtain ⟨c1, c2, rfl, h1, h2⟩ := ha
    have hl1 := h1.length
    obtain ⟨g1, g2, g3⟩ := arrL_rep hl h2
    refine ⟨by simp [g1], by rw [List.length_append, hl1, g2, show m + 2 = (m + 1) + 1 from rfl, Nat.add_mul (m + 1) 1, Nat.one_mul]; omega, fun i hi => ?_⟩
    cases i with
    | zero =>
      rw [Nat.zero_mul, List.drop_zero, List.take_append_of_le_length (by omega), ← hl1, List.take_length]
      exact h1
    | succ i =>
      have := g3 i (by simpa using hi)
      rw [show (i + 1) * a.size = c1.length + i * a.size from by rw [Nat.add_mul]; omega, ← List.drop_drop, List.drop_left]
      exact this
  | m + 2, .int _, _, _, _, h, _ => by unfold arrL at h; cases h
  | m + 2, .bool, _, _, _, h, _ => by unfold arrL at h; cases h
  | m + 2, .str, _, _, _, h, _ => by unfold arrL at h; cases h
  | m + 2, .slice _, _, _, _, h, _ => by unfold arrL at h; cases h
  | m + 2, .hdr, _, _, _, h, _ => by unfold arrL at h; cases h
  | m + 2, .nul _, _, _, _, h, _ => by unfold arrL at h; cases h
  | m + 2, .map .., _, _, _, h, _ => by unfold arrL at h; cases h

def eIndexV (T : Tabs P) (ob : Nat → Option (Nat × Th)) (t : TypeId) (D : Desc) (i : Int) (k : Eff → Option R) : Option R :=
  match find T.und t with
  | some .str => match asStr D with
    | some s => (byteA s i).bind fun c => k { dst := dInt .u8 c }
    | none => none
  | some (.array m e) => match find T.row t with
    | some r => match find T.row e with
      | some re => match find T.und e with
        | some kk => match D with
          | .val true tr => match flat ob r tr with
            | some x => match arrL m r x re with
              | some l => bif aggK kk || Nat.beq re.size 1 then (idx l i).bind fun y => k { dst := .val (aggK kk) (.leaf re y) } else none
              | none => none
            | none => none
          | _ => none
        | none => none
      | none => none
    | none => none
  | _ => none
theorem eIndexV_ok (T : Tabs P) {t : TypeId} {D : Desc} {x y : Operand} {kd : IntKind} {i : Int} {k : Eff → Option R} {q : R} (h : eIndexV T ob t D i k = some q) (hs : ObSat U H F w ob n) (hx : DescOK H F w D (ev ρ x)) (hy : ev ρ y = .int kd i) :
    ∃ e, k e = some q ∧ Says P U H F w ρ ob n ⟨some d, .index t x y, ty, pos, aft, none⟩ e := by
  unfold eIndexV at h
  split at h
  · rename_i hu
    have hu := T.und_ok _ _ hu
    split at h
    case h_2 => cases h
    rename_i s hS
    obtain ⟨c, hc, hk⟩ := bind_some h
    have hv := asStr_ok hS hx
    unfold byteA at hc
    obtain ⟨b, hb, rfl⟩ := Option.map_eq_some_iff.1 hc
    refine ⟨_, hk, says_pure hs (v := .int .u8 b.toNat) ?_ (ValOK.mkInt ..)⟩
    have hu' : P.underlying t = some .string := hu
    simp [execOp, Instr.index, asIntOf, run_underlying hu', hv, hy, hb]
  · rename_i m e hu
    have hu : P.underlying t = some (.array m e) := T.und_ok _ _ hu
    split at h
    case h_2 => cases h
    rename_i r hr
    split at h
    case h_2 => cases h
    rename_i re hre
    split at h
    case h_2 => cases h
    rename_i kk hkk
    split at h
    case h_2 => cases h
    rename_i tr
    split at h
    case h_2 => cases h
    rename_i z hz
    split at h
    case h_2 => cases h
    rename_i l hl
    obtain ⟨hag, h'⟩ := bif_eq h
    clear h
    obtain ⟨a, ha, hk⟩ := bind_some h'
    obtain ⟨cs, hh, hv, _⟩ := hx
    rw [cond_true] at hv
    obtain ⟨g1, g2, g3⟩ := arrL_rep hl (flat_ok hs hz hh)
    obtain ⟨j, hj, hlt, rfl⟩ := idx_some ha
    obtain ⟨ti, z0, h1, _, _, h4, _⟩ := T.row_ok _ _ hre
    obtain ⟨dd, hd1, hd2⟩ := (T.und_ok _ _ hkk).agg
    have hrep := g3 j hlt
    have hsz : (j + 1) * re.size ≤ cs.length := by rw [g2]; exact Nat.mul_le_mul_right _ (by omega)
    rw [Nat.add_mul] at hsz
    refine ⟨_, hk, ?_⟩
    cases hagg : aggK kk with
    | true =>
      refine says_pure hs (v := .agg ((cs.drop (j * re.size)).take re.size).toArray) ?_ ⟨_, hrep, rfl, by simp⟩
      subst hj
      simp [execOp, Instr.index, asIntOf, run_underlying hu, hv, hy, show j < m by omega, part, Sem.run_bind, run_isAgg hd1, hd2, hagg, sizeOf, typeInfo, h1, h4, List.extract_eq_take_drop]
    | false =>
      rw [hagg, Bool.false_or] at hag
      have hone := beq_true hag
      have hlen := hrep.length
      rw [hone, Nat.mul_one] at hrep hsz
      rw [hone] at hlen
      obtain ⟨v, hve⟩ : ∃ v, (cs.drop j).take 1 = [v] := by
        match hq : (cs.drop j).take 1, hlen' : ((cs.drop j).take 1).length with
        | [v], _ => exact ⟨v, rfl⟩
        | [], _ => rw [Nat.mul_one, hq] at hlen; cases hlen
        | _ :: _ :: _, _ => rw [Nat.mul_one, hq] at hlen; cases hlen
      rw [hve] at hrep
      have hget : cs[j]? = some v := by
        have : (cs.drop j)[0]? = some v := by
          have h0 : ((cs.drop j).take 1)[0]? = some v := by rw [hve]; rfl
          rwa [List.getElem?_take_of_lt (by omega)] at h0
        simpa using this
      refine says_pure hs (v := v) ?_ (ValOK.leaf1 hrep)
      subst hj
      simp [execOp, Instr.index, asIntOf, run_underlying hu, hv, hy, show j < m by omega, part, Sem.run_bind, run_isAgg hd1, hd2, hagg, sizeOf, typeInfo, h1, h4, hone, hget]
  · cases h
end
end Go.Proofs.YtjeeligfdpociaaGreat
