/- Regions whose order is drawn, walked by a function. -/
import Derived.Test.YtjeeligfdpociaaGreatDraw3
namespace Go.Proofs.YtjeeligfdpociaaGreat
open Go Go.RowKit

def offEnt (dst : Option Nat) (g : Nat) : Ent := { dst := dst, ts := [g], os := [], e := { dst := .undef } }

noncomputable def druns {R : Type} {P : Program} (E : Env P) (nt : Nat) (ops : Array Oper) : List Oper → State → List Ent → (State → Option R) → Option R
  | [], st, acc, k => bif drawOK ops.toList acc then k st else none
  | o :: os, st, acc, k => bif dstOK nt o.dst then (match o.guard with
    | none => dstep E o.dst o.op [] st (fun e x => druns E nt ops os (st.apply o.dst e) (acc ++ [x]) k)
    | some (j, b) => match gslot ops j with
      | none => none
      | some g => bif Nat.blt g nt then (match find st.slots g with
        | some .undef => druns E nt ops os (st.apply o.dst { dst := .undef }) (acc ++ [offEnt o.dst g]) k
        | some d => match asBool d with
          | some t => if t = true then
              (bif b then dstep E o.dst o.op [g] (st.put (some g) (dBool true)) (fun e x => druns E nt ops os ((st.put (some g) (dBool true)).apply o.dst e) (acc ++ [x]) k)
                else druns E nt ops os ((st.put (some g) (dBool true)).apply o.dst { dst := .undef }) (acc ++ [offEnt o.dst g]) k)
            else
              (bif b then druns E nt ops os ((st.put (some g) (dBool false)).apply o.dst { dst := .undef }) (acc ++ [offEnt o.dst g]) k
                else dstep E o.dst o.op [g] (st.put (some g) (dBool false)) (fun e x => druns E nt ops os ((st.put (some g) (dBool false)).apply o.dst e) (acc ++ [x]) k))
          | none => none
        | none => none) else none) else none

section
variable {P : Program} {nt : Nat} {ops : Array Oper} {R : Type}
variable {G : Nat → Prop} {w0 : World} {F0 : Nat → Prop} {sl0 : Nat → Option Desc} {ob0 : Nat → Option (Nat × Th)} {n0 : Nat}


/-- The lexical walk so far. -/
structure Lex (P : Program) (nt : Nat) (ops : Array Oper) (U : Nat → Prop) (sl0 : Nat → Option Desc) (ob0 : Nat → Option (Nat × Th)) (n0 : Nat) (es : List Ent) (st : State) : Prop where
  slot : ∀ t, find st.slots t = slotF yes 0 es sl0 t
  ob : ∀ o, find st.objs o = objF yes 0 es ob0 o
  nxt : st.nxt = n0 + 16 * es.length
  ok : ∀ i o x, ops[i]? = some o → es[i]? = some x → OpOK P ops nt U o (slotF yes 0 (es.take i) sl0) (objF yes 0 (es.take i) ob0) (n0 + 16 * i) x

theorem slotF_snoc {S : Nat → Bool} {es : List Ent} {x : Ent} {f : Nat → Option Desc} {t : Nat} (h : S es.length = true) : slotF S 0 (es ++ [x]) f t = if x.dst = some t then some x.e.dst else slotF S 0 es f t := by
  rw [slotF_append, Nat.zero_add]
  show (bif S es.length && optMem (some t) x.dst.toList then some x.e.dst else slotF S 0 es f t) = _
  rw [h, Bool.true_and]
  by_cases hd : x.dst = some t
  · rw [if_pos hd, dst_mem.2 hd]; rfl
  · rw [if_neg hd]
    cases hb : optMem (some t) x.dst.toList with
    | false => rfl
    | true => exact absurd (dst_mem.1 hb) hd
theorem objF_snoc {S : Nat → Bool} {es : List Ent} {x : Ent} {f : Nat → Option (Nat × Th)} {o : Nat} (h : S es.length = true) : objF S 0 (es ++ [x]) f o = (find x.e.make o).or (bif memB o x.e.eat then none else objF S 0 es f o) := by
  rw [objF_append, Nat.zero_add]
  show (bif S es.length then _ else _) = _
  rw [h]
  rfl

theorem find_apply_slots {st : State} {dst : Option Nat} {e : Eff} {t : Nat} : find (st.apply dst e).slots t = if dst = some t then some e.dst else find st.slots t := by
  cases dst with
  | none => simp [State.apply]
  | some d =>
    show find ((d, e.dst) :: st.slots) t = _
    rw [find_cons]
    by_cases h : d = t
    · simp [h]
    · simp [h]
theorem find_apply_objs {st : State} {dst : Option Nat} {e : Eff} {o : Nat} : find (st.apply dst e).objs o = (find e.make o).or (bif memB o e.eat then none else find st.objs o) := by
  show find (e.make ++ del e.eat st.objs) o = _
  rw [find_append]
  congr 1
  cases hb : memB o e.eat with
  | true =>
    rw [cond_true]
    cases h : find (del e.eat st.objs) o with
    | none => rfl
    | some x => exact absurd (memB_iff.1 hb) (find_del.1 h).1
  | false =>
    rw [cond_false]
    have hn : o ∉ e.eat := fun h => by rw [memB_iff.2 h] at hb; cases hb
    cases h : find st.objs o with
    | some x => exact find_del.2 ⟨hn, h⟩
    | none =>
      cases h2 : find (del e.eat st.objs) o with
      | none => rfl
      | some x => rw [(find_del.1 h2).2] at h; cases h

theorem Lex.snoc {U : Nat → Prop} {es : List Ent} {st : State} {x : Ent} {o : Oper} (h : Lex P nt ops U sl0 ob0 n0 es st) (ho : ops[es.length]? = some o) (hd : x.dst = o.dst)
    (hok : OpOK P ops nt U o (find st.slots) (find st.objs) st.nxt x) : Lex P nt ops U sl0 ob0 n0 (es ++ [x]) (st.apply o.dst x.e) := by
  refine ⟨fun t => ?_, fun q => ?_, ?_, fun i o' y ho' hy => ?_⟩
  · rw [find_apply_slots, slotF_snoc rfl, hd, h.slot t]
  · rw [find_apply_objs, objF_snoc rfl, h.ob q]
  · show st.nxt + 16 = _
    rw [h.nxt, List.length_append, List.length_singleton]
    omega
  · rcases Nat.lt_or_ge i es.length with hlt | hge
    · rw [List.getElem?_append_left hlt] at hy
      rw [List.take_append_of_le_length (by omega)]
      exact h.ok i o' y ho' hy
    · have hi : i = es.length := by
        have := (List.getElem?_eq_some_iff.1 hy).1
        simp at this
        omega
      subst hi
      simp at hy
      subst hy
      rw [ho] at ho'
      obtain rfl := Option.some.inj ho'
      rw [List.take_left']
      · rw [← funext h.slot, ← funext h.ob, ← h.nxt]
        exact hok
      · rfl

theorem Lex.put {U : Nat → Prop} {es : List Ent} {st : State} {g : Nat} {d : Desc} (h : Lex P nt ops U sl0 ob0 n0 es st) (hg : find st.slots g = some d) : Lex P nt ops U sl0 ob0 n0 es (st.put (some g) d) := by
  refine ⟨fun t => ?_, h.ob, h.nxt, h.ok⟩
  show find ((g, d) :: st.slots) t = _
  rw [find_cons, ← h.slot t]
  split
  · rename_i e; subst e; exact hg.symm
  · rfl

theorem asBool_eq {d : Desc} {t : Bool} (h : asBool d = some t) : d = dBool t := by
  unfold asBool at h
  split at h <;> cases h
  rfl

theorem druns_ok {E : Env P} {q : R} {k : State → Option R} : {l : List Oper} → {st : State} → {es : List Ent} → druns E nt ops l st es k = some q → (∀ j, l[j]? = ops[es.length + j]?) → Lex P nt ops (UU G w0) sl0 ob0 n0 es st →
    ∃ es' st', k st' = some q ∧ drawOK ops.toList es' = true ∧ Lex P nt ops (UU G w0) sl0 ob0 n0 es' st' ∧ es'.length = es.length + l.length
  | [], st, es, h, _, hl => by
    unfold druns at h
    obtain ⟨h1, h2⟩ := bif_eq h
    exact ⟨es, st, h2, h1, hl, rfl⟩
  | o :: l, st, es, h, hidx, hl => by
    have ho : ops[es.length]? = some o := by simpa using (hidx 0).symm
    have hidx' : ∀ x : Ent, ∀ j, l[j]? = ops[(es ++ [x]).length + j]? := fun x j => by
      have := hidx (j + 1)
      rw [List.length_append, List.length_singleton, show es.length + 1 + j = es.length + (j + 1) from by omega]
      simpa using this
    have go : ∀ {st1 : State} {x : Ent}, druns E nt ops l st1 (es ++ [x]) k = some q → Lex P nt ops (UU G w0) sl0 ob0 n0 (es ++ [x]) st1 → ∃ es' st', k st' = some q ∧ drawOK ops.toList es' = true ∧ Lex P nt ops (UU G w0) sl0 ob0 n0 es' st' ∧ es'.length = es.length + (o :: l).length := by
      intro st1 x h1 h2
      obtain ⟨es', st', a1, a2, a3, a4⟩ := druns_ok h1 (hidx' x) h2
      refine ⟨es', st', a1, a2, a3, ?_⟩
      rw [a4, List.length_append, List.length_singleton, List.length_cons]
      omega
    unfold druns at h
    obtain ⟨hd, h'⟩ := bif_eq h
    clear h
    have on : ∀ {st1 : State} {gs : List Nat}, dstep E o.dst o.op gs st1 (fun e x => druns E nt ops l (st1.apply o.dst e) (es ++ [x]) k) = some q → Lex P nt ops (UU G w0) sl0 ob0 n0 es st1 → (∀ ts : List Nat, (∀ g ∈ gs, g ∈ ts) → GOK ops nt ts (find st1.slots) o.guard true) → ∃ es' st', k st' = some q ∧ drawOK ops.toList es' = true ∧ Lex P nt ops (UU G w0) sl0 ob0 n0 es' st' ∧ es'.length = es.length + (o :: l).length := by
      intro st1 gs h1 h2 h3
      obtain ⟨e, x, a1, a2, a3, a4⟩ := dstep_ok (U := UU G w0) h1
      subst a2
      exact go a1 (h2.snoc ho a4.dst ⟨a4.dst, hd, true, h3 _ a3, fun _ => a4, fun h => by cases h⟩)
    have off : ∀ {st1 : State} {g : Nat}, druns E nt ops l (st1.apply o.dst { dst := .undef }) (es ++ [offEnt o.dst g]) k = some q → Lex P nt ops (UU G w0) sl0 ob0 n0 es st1 → GOK ops nt [g] (find st1.slots) o.guard false → ∃ es' st', k st' = some q ∧ drawOK ops.toList es' = true ∧ Lex P nt ops (UU G w0) sl0 ob0 n0 es' st' ∧ es'.length = es.length + (o :: l).length := by
      intro st1 g h1 h2 h3
      exact go (x := offEnt o.dst g) h1 (h2.snoc (x := offEnt o.dst g) ho rfl ⟨rfl, hd, false, h3, fun h => (by cases h), fun _ => rfl⟩)
    split at h'
    · rename_i hgd
      exact on h' hl fun ts _ => by rw [hgd]; exact .none
    · rename_i j b hgd
      split at h'
      case h_1 => cases h'
      rename_i g hgs
      obtain ⟨hgn, h⟩ := bif_eq h'
      clear h'
      split at h
      · rename_i hu
        exact off h hl (by rw [hgd]; exact .undef hgs hgn (by simp) hu)
      · rename_i d hsl
        split at h
        case h_2 => cases h
        rename_i t ht
        obtain rfl := asBool_eq ht
        have hfind : ∀ v : Bool, find (st.put (some g) (dBool v)).slots g = some (dBool v) := fun v => by
          show find ((g, dBool v) :: st.slots) g = _
          rw [find_cons, if_pos rfl]
        have glit : ∀ (v : Bool) (ts : List Nat) (r : Bool), g ∈ ts → r = decide (v = b) → GOK ops nt ts (find (st.put (some g) (dBool v)).slots) (some (j, b)) r := fun v ts r hg hr => by
          rw [hr]
          exact .lit hgs hgn hg (hfind v) rfl
        split at h
        · rename_i htt
          subst htt
          have hl1 := hl.put hsl
          cases b with
          | true => rw [cond_true] at h; exact on h hl1 fun ts hts => by rw [hgd]; exact glit true ts true (hts g (by simp)) rfl
          | false => rw [cond_false] at h; exact off h hl1 (by rw [hgd]; exact glit true [g] false (by simp) rfl)
        · rename_i htt
          have htt : t = false := by cases t <;> simp_all
          subst htt
          have hl1 := hl.put hsl
          cases b with
          | true => rw [cond_true] at h; exact off h hl1 (by rw [hgd]; exact glit false [g] false (by simp) rfl)
          | false => rw [cond_false] at h; exact on h hl1 fun ts hts => by rw [hgd]; exact glit false ts true (hts g (by simp)) rfl
      · cases h

def unl (m : Nat) (listed : Array Bool) : Nat := ((List.range m).filter fun j => !listed.getD j false).length

theorem unl_set {m i : Nat} {listed : Array Bool} (hi : i < m) (hs : listed.size = m) (h : listed.getD i false = false) : unl m (listed.setIfInBounds i true) + 1 ≤ unl m listed := by
  unfold unl
  have hsub : ∀ l : List Nat, (l.filter fun j => !(listed.setIfInBounds i true).getD j false).length ≤ (l.filter fun j => !listed.getD j false).length ∧ (i ∈ l → (l.filter fun j => !(listed.setIfInBounds i true).getD j false).length + 1 ≤ (l.filter fun j => !listed.getD j false).length) := by
    intro l
    induction l with
    | nil => exact ⟨Nat.le_refl _, fun h => by cases h⟩
    | cons j l ih =>
      by_cases hj : i = j
      · subst hj
        have e1 : (listed.setIfInBounds i true).getD i false = true := by simp [Array.getD_eq_getD_getElem?, hs, hi]
        rw [List.filter_cons, List.filter_cons, e1, h]
        simp only [Bool.not_true, Bool.false_eq_true, if_false, Bool.not_false, if_true, List.length_cons]
        exact ⟨by omega, fun _ => by omega⟩
      · have e1 : (listed.setIfInBounds i true).getD j false = listed.getD j false := getD_set_ne false hj
        rw [List.filter_cons, List.filter_cons, e1]
        cases listed.getD j false with
        | true =>
          simp only [Bool.not_true, Bool.false_eq_true, if_false]
          exact ⟨ih.1, fun hm => ih.2 (by simpa [hj] using hm)⟩
        | false =>
          simp only [Bool.not_false, if_true, List.length_cons]
          exact ⟨by omega, fun hm => by have := ih.2 (by simpa [hj] using hm); omega⟩
  exact (hsub _).2 (by simpa using hi)

theorem draw_ok {E : Env P} {id : Nat} {q : R} {k : State → Option R} {st : State} {H : Hist} {F : Nat → Prop} {w : World} {ρ : Nat → Value} {Q : Exit → (Nat → Value) → World → Prop} (hm : P.follows .mixedOrders = true)
    (h : druns E nt ops ops.toList st [] k = some q) (hh : Here G w0 F0 H F w ρ st)
    (hk : ∀ st' H' F' w' ρ', k st' = some q → Here G w0 F0 H' F' w' ρ' st' → Keeps H F w H' F' w' → (∀ t, (∀ o ∈ ops.toList, o.dst ≠ some t) → ρ' t = ρ t) → Q .normal ρ' w') : wpC P nt (.region id ops true) Q ρ w := by
  obtain ⟨es, st', hst', hdr, hlex, hlen⟩ := druns_ok (G := G) (w0 := w0) (sl0 := find st.slots) (ob0 := find st.objs) (n0 := st.nxt) h (fun j => by simp) ⟨fun _ => rfl, fun _ => rfl, by simp, fun i o x _ hx => by simp at hx⟩
  simp only [List.length_nil, Nat.zero_add, Array.length_toList] at hlen
  unfold drawOK at hdr
  split at hdr
  case h_2 => cases hdr
  rename_i ms hms
  have hdst : ∀ x ∈ es, ∃ o ∈ ops.toList, x.dst = o.dst := fun x hx => by
    obtain ⟨i, hi, rfl⟩ := List.getElem_of_mem hx
    have hlt : i < ops.size := by omega
    exact ⟨ops[i], by simp, (hlex.ok i ops[i] es[i] (Array.getElem?_eq_getElem hlt) (List.getElem?_eq_getElem hi)).dst⟩
  have hsoft : ∀ k y, es[k]? = some y → ∀ q, q ∈ y.soft → q ∈ y.mut → ∃ z z', objF yes 0 (es.take k) (find st.objs) q = some z ∧ find y.e.make q = some z' ∧ SoftEq z z' := fun k y hy q h1 h2 => by
    have hlt : k < es.length := (List.getElem?_eq_some_iff.1 hy).1
    obtain ⟨_, _, b, _, hon, hoff⟩ := hlex.ok k _ y (Array.getElem?_eq_getElem (by omega)) hy
    cases b with
    | true => exact (hon rfl).soft q h1 h2
    | false =>
      rw [Ent.mut, hoff rfl] at h2
      simp [keysM] at h2
  have edge_lt : ∀ i o, ops[i]? = some o → ∀ e ∈ o.after, Region.binds .any e = true → e.on < i := fun i o ho e he hb => by
    obtain ⟨m, h1, _⟩ := (ancs_ok hms).2.2 i o (by rw [Array.getElem?_toList]; exact ho)
    simp only [List.length_nil, Nat.zero_add] at h1
    exact ancE_lt h1 e (by simpa using he) hb
  intro a hf
  refine wp_region_any hm ?_
  -- every order
  have main : ∀ fuel (listed : Array Bool) (a : Act) (w' : World) H' F' ρ', listed.size = ops.size → unl ops.size listed ≤ fuel → Closed ops (fun j => listed.getD j false = true) → Fr nt a ρ' →
      Inv G w0 F0 es (find st.slots) (find st.objs) st.nxt H F w ρ (fun j => listed.getD j false) H' F' w' ρ' → wpAny P .any ops (fun e a' w' => ∃ ρ', Fr nt a' ρ' ∧ Q e ρ' w') fuel listed a w' := by
    have done : ∀ (listed : Array Bool) (a : Act) (w' : World) H' F' ρ', (∀ i, i < ops.size → listed.getD i false = true) → Fr nt a ρ' → Inv G w0 F0 es (find st.slots) (find st.objs) st.nxt H F w ρ (fun j => listed.getD j false) H' F' w' ρ' → ∃ ρ', Fr nt a ρ' ∧ Q .normal ρ' w' := by
      intro listed a w' H' F' ρ' hall hf hinv
      have eS : ∀ t, slotF (fun j => listed.getD j false) 0 es (find st.slots) t = find st'.slots t := fun t => by
        rw [hlex.slot t]
        refine slotF_congr rfl fun k x hx _ => ?_
        have := (List.getElem?_eq_some_iff.1 hx).1
        rw [Nat.zero_add]
        exact hall k (by omega)
      have eO : ∀ o, objF (fun j => listed.getD j false) 0 es (find st.objs) o = find st'.objs o := fun o => by
        rw [hlex.ob o]
        refine objF_congr rfl fun k x hx _ => ?_
        have := (List.getElem?_eq_some_iff.1 hx).1
        rw [Nat.zero_add]
        exact hall k (by omega)
      refine ⟨ρ', hf, hk st' H' F' w' ρ' hst' ⟨⟨fun t d hd => hinv.slot t d (by rw [eS]; exact hd), ?_, ?_⟩, hinv.glob⟩ hinv.keeps fun t ht => hinv.same t fun x hx => ?_⟩
      · have := hinv.ob
        rw [funext eO] at this
        rw [hlex.nxt]
        exact this
      · rw [hlex.nxt]; exact hinv.all
      · obtain ⟨o, ho, e⟩ := hdst x hx
        rw [e]
        exact ht o ho
    have ready_all : ∀ (listed : Array Bool), listed.size = ops.size → Region.ready .any ops listed = [] → ∀ i, i < ops.size → listed.getD i false = true := by
      intro listed hs hr i
      induction i using Nat.strongRecOn with
      | _ i ih =>
        intro hi
        cases hl : listed.getD i false with
        | true => rfl
        | false =>
          have : i ∈ Region.ready .any ops listed := mem_ready.2 ⟨by
            simp only [Array.getD_eq_getD_getElem?] at hl ⊢
            rw [Array.getElem?_eq_getElem (by omega)] at hl ⊢
            simpa using hl, ops[i], Array.getElem?_eq_getElem hi, fun e he hb => ih e.on (edge_lt i _ (Array.getElem?_eq_getElem hi) e he hb) (by
              have := edge_lt i _ (Array.getElem?_eq_getElem hi) e he hb
              omega)⟩
          rw [hr] at this
          cases this
    intro fuel
    induction fuel with
    | zero =>
      intro listed a w' H' F' ρ' hs hu hc hf hinv
      have hall : ∀ i, i < ops.size → listed.getD i false = true := fun i hi => by
        cases hl : listed.getD i false with
        | true => rfl
        | false =>
          have := unl_set hi hs hl
          omega
      refine ⟨?_, done listed a w' H' F' ρ' hall hf hinv⟩
      cases hr : Region.ready .any ops listed with
      | nil => rfl
      | cons i l =>
        have hi : i ∈ Region.ready .any ops listed := by rw [hr]; simp
        obtain ⟨h1, o, h2, _⟩ := mem_ready.1 hi
        have hlt := (Array.getElem?_eq_some_iff.1 h2).1
        have h3 := hall i hlt
        simp only [Array.getD_eq_getD_getElem?] at h1 h3
        rw [Array.getElem?_eq_getElem (by omega)] at h1 h3
        simp at h1 h3
        rw [h1] at h3
        cases h3
    | succ fuel ih =>
      intro listed a w' H' F' ρ' hs hu hc hf hinv
      refine ⟨fun hr => done listed a w' H' F' ρ' (ready_all listed hs hr) hf hinv, fun i hi => ?_⟩
      obtain ⟨h1, o, ho, hdeps⟩ := mem_ready.1 hi
      have hlt := (Array.getElem?_eq_some_iff.1 ho).1
      have hSi : listed.getD i false = false := by
        simp only [Array.getD_eq_getD_getElem?] at h1 ⊢
        rw [Array.getElem?_eq_getElem (by omega)] at h1 ⊢
        simpa using h1
      have hx : es[i]? = some (es[i]'(by omega)) := List.getElem?_eq_getElem (by omega)
      have hop := hlex.ok i o _ ho hx
      rw [← slotF_upto (by omega), ← objF_upto (by omega)] at hop
      have hins : (fun j => (listed.setIfInBounds i true).getD j false) = ins (fun j => listed.getD j false) i := by
        funext j
        by_cases e : j = i
        · subst e
          rw [ins_self]
          simp [Array.getD_eq_getD_getElem?, hs, hlt]
        · rw [ins_ne e]
          exact getD_set_ne false (Ne.symm e)
      refine inv_step hms hdr hlen hc ho hx hSi hdeps hsoft hop hf hinv fun a'' ρ'' H'' F'' w'' hf'' hinv'' => ?_
      refine ih _ a'' w'' H'' F'' ρ'' (by simp [hs]) ?_ ?_ hf'' ?_
      · have := unl_set hlt hs hSi
        omega
      · intro j hj o' ho' e he hb
        by_cases ej : j = i
        · subst ej
          rw [ho] at ho'
          obtain rfl := Option.some.inj ho'
          exact getD_set_true (hdeps e he hb)
        · have hj' : listed.getD j false = true := by
            have : (listed.setIfInBounds i true).getD j false = listed.getD j false := getD_set_ne false (Ne.symm ej)
            rw [← this]
            exact hj
          exact getD_set_true (hc j hj' o' ho' e he hb)
      · rw [hins]
        exact hinv''
  have hS0 : ∀ j, (Array.replicate ops.size false).getD j false = false := fun j => by
    simp only [Array.getD_eq_getD_getElem?]
    by_cases hj : j < ops.size
    · simp [hj]
    · simp [hj]
  have hw : Step F w F w.drew := Step.drew F w
  refine main ops.size _ a _ H F ρ (by simp) ?_ (fun i hi => by
    have hi' : (Array.replicate ops.size false).getD i false = true := hi
    rw [hS0] at hi'
    cases hi') hf ⟨fun t d hd => ?_, ?_, fun m hm => hh.sat.all m (by omega), fun i hi _ m hm _ => hh.sat.all m (by omega), ⟨⟨hh.glob.ext.os, hh.glob.ext.tape, hh.glob.ext.output, hh.glob.ext.size, hh.glob.ext.block⟩, hh.glob.le, hh.glob.new⟩, ⟨Hist.le.refl H, hw⟩, fun _ _ => rfl⟩
  · unfold unl
    exact Nat.le_trans (List.length_filter_le _ _) (by simp)
  · rw [slotF_none fun k x _ _ => hS0 _] at hd
    exact (hh.sat.slot t d hd).keep (Hist.le.refl H) hw
  · have e : objF (fun j => (Array.replicate ops.size false).getD j false) 0 es (find st.objs) = find st.objs := by
      funext o
      exact objF_none fun k x _ _ => hS0 _
    rw [e]
    have hb := hh.sat.ob
    refine ⟨fun o s t ho => ?_, hb.apart, fun m hm _ => hh.sat.all m (by omega), hb.lt, hb.new, hb.gl.step (fun _ h => ⟨h, rfl⟩)⟩
    obtain ⟨v, hv, hin⟩ := hb.obj o s t ho
    exact ⟨v, hv, hin.one, hin.con, hin.ok.heap (Hist.le.refl H) hw fun _ _ => rfl, hin.no, hin.lt, hin.use⟩
end
end Go.Proofs.YtjeeligfdpociaaGreat
