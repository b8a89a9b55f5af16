/- Regions whose order is drawn: every order comes to the same. -/
/- Regions whose order is drawn, walked by a function. -/
import Derived.Test.YtjeeligfdpociaaGreatDraw2
namespace Go.Proofs.YtjeeligfdpociaaGreat
open Go Go.RowKit

theorem laterOK_ok {ms : List Nat} {i : Nat} {x : Ent} : {l : List Ent} → {j : Nat} → laterOK ms i x j l = true → ∀ k y, l[k]? = some y → conflict x y = true → (ms.getD (j + k) 0).testBit i = true
  | [], _, _, k, y, h, _ => by simp at h
  | z :: l, j, hl, k, y, h, hc => by
    obtain ⟨h1, h2⟩ := and2 hl
    cases k with
    | zero =>
      obtain rfl : z = y := by simpa using h
      rw [hc, cond_true] at h1
      exact h1
    | succ k =>
      have := laterOK_ok h2 k y (by simpa using h) hc
      rwa [show j + 1 + k = j + (k + 1) from by omega] at this
theorem pairsOK_ok {ms : List Nat} : {l : List Ent} → {i : Nat} → pairsOK ms i l = true → ∀ a b x y, a < b → l[a]? = some x → l[b]? = some y → conflict x y = true → (ms.getD (i + b) 0).testBit (i + a) = true
  | [], _, _, a, b, x, y, _, h, _, _ => by simp at h
  | z :: l, i, hl, a, b, x, y, hab, hx, hy, hc => by
    obtain ⟨h1, h2⟩ := and2 hl
    cases a with
    | zero =>
      obtain rfl : z = x := by simpa using hx
      cases b with
      | zero => omega
      | succ b =>
        have := laterOK_ok h1 b y (by simpa using hy) hc
        rwa [show i + 1 + b = i + (b + 1) from by omega] at this
    | succ a =>
      cases b with
      | zero => omega
      | succ b =>
        have := pairsOK_ok h2 a b x y (by omega) (by simpa using hx) (by simpa using hy) hc
        rwa [show i + 1 + b = i + (b + 1) from by omega, show i + 1 + a = i + (a + 1) from by omega] at this

/-- What is asked of a guard. -/
inductive GOK (ops : Array Oper) (nt : Nat) (ts : List Nat) (sl : Nat → Option Desc) : Option (Nat × Bool) → Bool → Prop
  | none : GOK ops nt ts sl none true
  | lit {j g : Nat} {b t : Bool} {d : Desc} (h1 : gslot ops j = some g) (h2 : Nat.blt g nt = true) (h3 : g ∈ ts) (h4 : sl g = some d) (h5 : asBool d = some t) : GOK ops nt ts sl (some (j, b)) (decide (t = b))
  | undef {j g : Nat} {b : Bool} (h1 : gslot ops j = some g) (h2 : Nat.blt g nt = true) (h3 : g ∈ ts) (h4 : sl g = some .undef) : GOK ops nt ts sl (some (j, b)) false

/-- What is known of operation number i. -/
structure OpOK (P : Program) (ops : Array Oper) (nt : Nat) (U : Nat → Prop) (o : Oper) (sl : Nat → Option Desc) (ob : Nat → Option (Nat × Th)) (n : Nat) (x : Ent) : Prop where
  dst : x.dst = o.dst
  bnd : dstOK nt o.dst = true
  on : ∃ b, GOK ops nt x.ts sl o.guard b ∧ (b = true → EntOK P U o sl ob n x) ∧ (b = false → x.e = { dst := .undef })

section
variable {P : Program} {nt : Nat} {ops : Array Oper}

theorem runs_wp {ρ : Nat → Value} {o : Oper} {w : World} {QQ : Value → World → Prop} {a : Act} {K : Act → World → Prop} {Q : Exit → Act → World → Prop} (h : RunsTo P ρ ⟨o.dst, o.op, o.type, o.pos, o.after, none⟩ w QQ) (hf : Fr nt a ρ)
    (hk : ∀ v w', QQ v w' → K (a.put o.dst v) w') : o.wp P a w K Q := by
  unfold Oper.wp
  rw [hf.eval]
  unfold RunsTo at h
  have e : execOp (ev ρ) o = execOp (ev ρ) ⟨o.dst, o.op, o.type, o.pos, o.after, none⟩ := rfl
  rw [e]
  generalize (execOp (ev ρ) ⟨o.dst, o.op, o.type, o.pos, o.after, none⟩).run P w = r at *
  cases r with
  | halt x w' => exact h.elim
  | ok x w' =>
    cases x <;> first
      | exact h.elim
      | skip
    case value v => exact hk v w' h.2
    case skip => exact hk undef w' h.2
    case enter f args =>
      refine h.mono fun e w'' ⟨v, he, hv⟩ => ?_
      subst he
      exact hk v w'' hv

theorem ObSat.sub {U : Nat → Prop} {H : Hist} {F : Nat → Prop} {w : World} {ob obR : Nat → Option (Nat × Th)} {n m : Nat} (h : ObSat U H F w ob n) (hR : ∀ o x, obR o = some x → ob o = some x) (hfr : ∀ k, m ≤ k → k < m + 16 → H.val k = none ∧ H.con k = none) : ObSat U H F w obR m :=
  ⟨fun o s t ho => h.obj o s t (hR _ _ ho), fun o o' s s' t t' v v' hne ho ho' => h.apart o o' s s' t t' v v' hne (hR _ _ ho) (hR _ _ ho'), hfr, h.lt, h.new, h.gl⟩

structure Inv (G : Nat → Prop) (w0 : World) (F0 : Nat → Prop) (es : List Ent) (sl0 : Nat → Option Desc) (ob0 : Nat → Option (Nat × Th)) (n0 : Nat) (H : Hist) (F : Nat → Prop) (w : World) (ρ : Nat → Value) (S : Nat → Bool) (H' : Hist) (F' : Nat → Prop) (w' : World) (ρ' : Nat → Value) : Prop where
  slot : ∀ t d, slotF S 0 es sl0 t = some d → DescOK H' F' w' d (ρ' t)
  ob : ObSat (UU G w0) H' F' w' (objF S 0 es ob0) (n0 + 16 * es.length)
  all : AllNew H' (n0 + 16 * es.length)
  fresh : ∀ i, i < es.length → S i = false → ∀ m, n0 + 16 * i ≤ m → m < n0 + 16 * i + 16 → H'.val m = none ∧ H'.con m = none
  glob : Glob G w0 F0 w' F'
  keeps : Keeps H F w H' F' w'
  same : ∀ t, (∀ x ∈ es, x.dst ≠ some t) → ρ' t = ρ t

def ins (S : Nat → Bool) (i : Nat) : Nat → Bool := fun j => bif Nat.beq j i then true else S j
theorem ins_self {S : Nat → Bool} {i : Nat} : ins S i i = true := by simp [ins]
theorem ins_ne {S : Nat → Bool} {i j : Nat} (h : j ≠ i) : ins S i j = S j := by
  unfold ins
  cases hb : Nat.beq j i with
  | true => exact absurd (beq_true hb) h
  | false => rfl

section
variable {G : Nat → Prop} {w0 : World} {F0 : Nat → Prop} {es : List Ent} {sl0 : Nat → Option Desc} {ob0 : Nat → Option (Nat × Th)} {n0 : Nat} {H : Hist} {F : Nat → Prop} {w : World} {ρ : Nat → Value} {ms : List Nat}

theorem split_at {i : Nat} {x : Ent} (h : es[i]? = some x) : es = es.take i ++ x :: es.drop (i + 1) ∧ (es.take i).length = i := by
  have hlt : i < es.length := (List.getElem?_eq_some_iff.1 h).1
  have hx : es[i] = x := (List.getElem?_eq_some_iff.1 h).2
  refine ⟨?_, by simp; omega⟩
  rw [← hx, ← List.drop_eq_getElem_cons hlt, List.take_append_drop]

theorem slotF_ins {S : Nat → Bool} {i : Nat} {x : Ent} (hx : es[i]? = some x) (hlate : ∀ t, x.dst = some t → ∀ j y, es[j]? = some y → y.dst = some t → S j = true → j < i) (t : Nat) :
    slotF (ins S i) 0 es sl0 t = if x.dst = some t then some x.e.dst else slotF S 0 es sl0 t := by
  by_cases hd : x.dst = some t
  · rw [if_pos hd]
    obtain ⟨e1, e2⟩ := split_at hx
    rw [e1, slotF_append, e2, Nat.zero_add]
    show slotF (ins S i) (i + 1) (es.drop (i + 1)) _ t = _
    rw [slotF_none fun k y hy hyd => by
      rw [ins_ne (by omega)]
      cases hS : S (i + 1 + k) with
      | false => rfl
      | true =>
        have := hlate t hd (i + 1 + k) y (by rw [← hy, List.getElem?_drop]) hyd hS
        omega]
    rw [ins_self, dst_mem.2 hd]
    rfl
  · rw [if_neg hd]
    refine slotF_congr rfl fun k y hy hyd => ?_
    rw [Nat.zero_add]
    refine ins_ne fun e => ?_
    subst e
    rw [hx] at hy
    obtain rfl := Option.some.inj hy
    exact hd hyd

theorem objF_ins {S : Nat → Bool} {i : Nat} {x : Ent} (hx : es[i]? = some x) (hS : S i = false) (hlate : ∀ o, o ∈ x.mut → ∀ j y, es[j]? = some y → o ∈ y.mut → S j = true → j < i) (o s : Nat) (t : Th) (h : objF (ins S i) 0 es ob0 o = some (s, t)) :
    find x.e.make o = some (s, t) ∨ (o ∉ x.e.eat ∧ objF S 0 es ob0 o = some (s, t) ∧ find x.e.make o = none) := by
  by_cases hd : o ∈ x.mut
  · obtain ⟨e1, e2⟩ := split_at hx
    have late : ∀ S' : Nat → Bool, (∀ j, j ≠ i → S' j = S j) → ∀ f, objF S' (i + 1) (es.drop (i + 1)) f o = f o := fun S' hS' f => objF_none fun k y hy hyd => by
      rw [hS' _ (by omega)]
      cases hSk : S (i + 1 + k) with
      | false => rfl
      | true =>
        have := hlate o hd (i + 1 + k) y (by rw [← hy, List.getElem?_drop]) hyd hSk
        omega
    have pre : objF (ins S i) 0 (es.take i) ob0 o = objF S 0 (es.take i) ob0 o := objF_congr rfl fun k y hy _ => by
      rw [Nat.zero_add]
      refine ins_ne fun e => ?_
      have := (List.getElem?_eq_some_iff.1 hy).1
      omega
    have all : objF S 0 es ob0 o = objF S 0 (es.take i) ob0 o := by
      conv => lhs; rw [e1]
      rw [objF_append, e2, Nat.zero_add]
      show objF S (i + 1) (es.drop (i + 1)) _ o = _
      rw [late S (fun _ _ => rfl), hS]
      rfl
    conv at h => lhs; rw [e1]
    rw [objF_append, e2, Nat.zero_add] at h
    change objF (ins S i) (i + 1) (es.drop (i + 1)) _ o = _ at h
    rw [late (ins S i) (fun j hj => ins_ne hj), ins_self, cond_true, pre, ← all] at h
    cases hm : find x.e.make o with
    | some y => rw [hm] at h; exact .inl h
    | none =>
      rw [hm, Option.none_or] at h
      cases he : memB o x.e.eat with
      | true => rw [he] at h; cases h
      | false =>
        rw [he, cond_false] at h
        exact .inr ⟨fun e => (by rw [memB_iff.2 e] at he; cases he), h, rfl⟩
  · right
    have h1 : find x.e.make o = none := by
      cases hm : find x.e.make o with
      | none => rfl
      | some y => exact absurd (by simp [Ent.mut, keysM_mem hm]) hd
    refine ⟨fun e => hd (by simp [Ent.mut, e]), ?_, h1⟩
    rw [← h]
    refine (objF_congr rfl fun k y hy hyd => ?_).symm
    rw [Nat.zero_add]
    refine ins_ne fun e => ?_
    subst e
    rw [hx] at hy
    obtain rfl := Option.some.inj hy
    exact hd hyd

theorem meetB_mem {l l' : List Nat} {o : Nat} (h : o ∈ l) (h' : o ∈ l') : meetB l l' = true := by
  unfold meetB
  rw [List.any_eq_true]
  exact ⟨o, h, memB_iff.2 h'⟩

theorem blt_ge {i j : Nat} (h : i ≤ j) : Nat.blt j i = false := by
  cases hb : Nat.blt j i with
  | false => rfl
  | true => have : j < i := by simpa using hb
            omega

def yes (_ : Nat) : Bool := true
theorem slotF_upto {es : List Ent} {i : Nat} (hi : i ≤ es.length) : slotF (fun j => Nat.blt j i) 0 es sl0 = slotF yes 0 (es.take i) sl0 := by
  funext t
  conv => lhs; rw [← List.take_append_drop i es]
  rw [slotF_append, slotF_none (S := fun j => Nat.blt j i) fun k x _ _ => blt_ge (by simp; omega)]
  refine slotF_congr rfl fun k x hx _ => ?_
  have := (List.getElem?_eq_some_iff.1 hx).1
  simp at this
  simp [yes]
  omega
theorem objF_upto {es : List Ent} {i : Nat} (hi : i ≤ es.length) : objF (fun j => Nat.blt j i) 0 es ob0 = objF yes 0 (es.take i) ob0 := by
  funext t
  conv => lhs; rw [← List.take_append_drop i es]
  rw [objF_append, objF_none (S := fun j => Nat.blt j i) fun k x _ _ => blt_ge (by simp; omega)]
  refine objF_congr rfl fun k x hx _ => ?_
  have := (List.getElem?_eq_some_iff.1 hx).1
  simp at this
  simp [yes]
  omega


/-- Of an object only a place may have been taken out meanwhile. -/
theorem objF_soft {S : Nat → Bool} {i q : Nat} (hA : ∀ k y, k < i → es[k]? = some y → q ∈ y.mut → S k = true ∨ q ∈ y.soft)
    (hs : ∀ k y, es[k]? = some y → q ∈ y.soft → q ∈ y.mut → ∃ z z', objF yes 0 (es.take k) ob0 q = some z ∧ find y.e.make q = some z' ∧ SoftEq z z') :
    ∀ m, m ≤ i → m ≤ es.length → ∀ z, objF yes 0 (es.take m) ob0 q = some z → ∃ z', objF S 0 (es.take m) ob0 q = some z' ∧ SoftEq z z' := by
  intro m
  induction m with
  | zero => intro _ _ z hz; exact ⟨z, hz, .inl rfl⟩
  | succ m ih =>
    intro hm hl z hz
    have hlt : m < es.length := by omega
    have hy : es[m]? = some es[m] := List.getElem?_eq_getElem hlt
    have e1 : es.take (m + 1) = es.take m ++ [es[m]] := by rw [List.take_add_one, hy]; rfl
    have el : (es.take m).length = m := by simp; omega
    rw [e1, objF_append, el, Nat.zero_add] at hz ⊢
    generalize hgy : es[m] = y at *
    have ez : (find y.e.make q).or (bif memB q y.e.eat then none else objF yes 0 (es.take m) ob0 q) = some z := hz
    show ∃ z', (bif S m then (find y.e.make q).or (bif memB q y.e.eat then none else objF S 0 (es.take m) ob0 q) else objF S 0 (es.take m) ob0 q) = some z' ∧ SoftEq z z'
    by_cases hmut : q ∈ y.mut
    · cases hSm : S m with
      | true =>
        rw [cond_true]
        cases hmk : find y.e.make q with
        | some x => rw [hmk] at ez; exact ⟨z, ez, .inl rfl⟩
        | none =>
          have hk : q ∉ keysM y.e.make := fun hk => by
            have : ∀ l : List (Nat × (Nat × Th)), q ∈ keysM l → find l q ≠ none := by
              intro l
              induction l with
              | nil => intro h; cases h
              | cons p l ih =>
                obtain ⟨o', x⟩ := p
                intro h
                rw [find_cons]
                split
                · simp
                · rename_i hne
                  rcases List.mem_cons.1 h with h | h
                  · exact absurd h.symm hne
                  · exact ih h
            exact this _ hk hmk
          have he : memB q y.e.eat = true := memB_iff.2 (by
            rcases List.mem_append.1 hmut with h | h
            · exact h
            · exact absurd h hk)
          rw [hmk, he] at ez
          cases ez
      | false =>
        rw [cond_false]
        rcases hA m y (by omega) hy hmut with h | h
        · rw [hSm] at h; cases h
        · obtain ⟨x, x', h1, h2, h3⟩ := hs m y hy h hmut
          rw [h2] at ez
          obtain rfl := Option.some.inj ez
          obtain ⟨z', h4, h5⟩ := ih (by omega) (by omega) x h1
          exact ⟨z', h4, h3.symm.trans h5⟩
    · have h1 : find y.e.make q = none := by
        cases hm : find y.e.make q with
        | none => rfl
        | some y => exact absurd (by simp [Ent.mut, keysM_mem hm]) hmut
      have h2 : memB q y.e.eat = false := by
        cases hb : memB q y.e.eat with
        | false => rfl
        | true => exact absurd (by simp [Ent.mut, memB_iff.1 hb]) hmut
      rw [h1, h2, Option.none_or, cond_false] at ez
      obtain ⟨z', h4, h5⟩ := ih (by omega) (by omega) z ez
      refine ⟨z', ?_, h5⟩
      rw [h1, h2, Option.none_or, cond_false, h4]
      cases S m <;> rfl

/-- One operation that may come up now. -/
theorem inv_step (hms : ancs [] ops.toList = some ms) (hp : pairsOK ms 0 es = true) (hlen : es.length = ops.size) {S : Nat → Bool} (hS : Closed ops (fun j => S j = true)) {i : Nat} {o : Oper} {x : Ent} (ho : ops[i]? = some o) (hx : es[i]? = some x) (hSi : S i = false)
    (hdeps : ∀ e ∈ o.after, Region.binds .any e = true → S e.on = true) (hsoft : ∀ k y, es[k]? = some y → ∀ q, q ∈ y.soft → q ∈ y.mut → ∃ z z', objF yes 0 (es.take k) ob0 q = some z ∧ find y.e.make q = some z' ∧ SoftEq z z') (hop : OpOK P ops nt (UU G w0) o (slotF (fun j => Nat.blt j i) 0 es sl0) (objF (fun j => Nat.blt j i) 0 es ob0) (n0 + 16 * i) x)
    {H' : Hist} {F' : Nat → Prop} {w' : World} {ρ' : Nat → Value} {a : Act} (hf : Fr nt a ρ') (hinv : Inv G w0 F0 es sl0 ob0 n0 H F w ρ S H' F' w' ρ') {K : Act → World → Prop} {Q : Exit → Act → World → Prop}
    (hk : ∀ a'' ρ'' H'' F'' w'', Fr nt a'' ρ'' → Inv G w0 F0 es sl0 ob0 n0 H F w ρ (ins S i) H'' F'' w'' ρ'' → K a'' w'') : wpOp P ops Q i K a w' := by
  have hilt : i < es.length := (List.getElem?_eq_some_iff.1 hx).1
  have up : ∀ j y, es[j]? = some y → j < i → conflict y x = true → S j = true := fun j y hy hji hc => by
    have := pairsOK_ok hp j i y x hji hy hx hc
    rw [Nat.zero_add, Nat.zero_add] at this
    exact anc_in hms hS i o ho hdeps j this
  have down : ∀ j y, es[j]? = some y → i < j → conflict x y = true → S j = true → False := fun j y hy hij hc hj => by
    have := pairsOK_ok hp i j x y hij hx hy hc
    rw [Nat.zero_add, Nat.zero_add] at this
    have hjlt : j < ops.size := by have := (List.getElem?_eq_some_iff.1 hy).1; omega
    have h2 := anc_in hms hS j _ (Array.getElem?_eq_getElem hjlt) (fun e he hb => hS j hj _ (Array.getElem?_eq_getElem hjlt) e he hb) i this
    rw [hSi] at h2
    cases h2
  have lateS : ∀ t, x.dst = some t → ∀ j y, es[j]? = some y → y.dst = some t → S j = true → j < i := fun t ht j y hy hyt hj => by
    rcases Nat.lt_trichotomy j i with h | h | h
    · exact h
    · subst h; rw [hSi] at hj; cases hj
    · exact (down j y hy h (by unfold conflict; simp [optMem, ht, hyt, memB_iff]) hj).elim
  have lateO : ∀ q, q ∈ x.mut → ∀ j y, es[j]? = some y → q ∈ y.mut → S j = true → j < i := fun q hq j y hy hyq hj => by
    rcases Nat.lt_trichotomy j i with h | h | h
    · exact h
    · subst h; rw [hSi] at hj; cases hj
    · exact (down j y hy h (by unfold conflict; rw [meetB_mem hq (by simp [hyq])]; simp) hj).elim
  have seeS : ∀ t, t ∈ x.ts → slotF (fun j => Nat.blt j i) 0 es sl0 t = slotF S 0 es sl0 t := fun t ht => slotF_congr rfl fun j y hy hyt => by
    rw [Nat.zero_add]
    rcases Nat.lt_trichotomy j i with h | h | h
    · rw [up j y hy h (by unfold conflict; simp [optMem, hyt, memB_iff, ht])]
      simpa using h
    · subst h; rw [hSi]; exact blt_ge (Nat.le_refl _)
    · have : S j = false := by
        cases hj : S j with
        | false => rfl
        | true => exact (down j y hy h (by unfold conflict; simp [optMem, hyt, memB_iff, ht]) hj).elim
      rw [this]
      exact blt_ge (by omega)
  have seeO : ∀ q, q ∈ x.os → objF (fun j => Nat.blt j i) 0 es ob0 q = objF S 0 es ob0 q := fun q hq => objF_congr rfl fun j y hy hyq => by
    rw [Nat.zero_add]
    rcases Nat.lt_trichotomy j i with h | h | h
    · rw [up j y hy h (by unfold conflict; rw [meetB_mem hyq (by simp [hq])]; simp)]
      simpa using h
    · subst h; rw [hSi]; exact blt_ge (Nat.le_refl _)
    · have : S j = false := by
        cases hj : S j with
        | false => rfl
        | true => exact (down j y hy h (by unfold conflict; rw [meetB_mem (l := x.os ++ x.ls ++ x.mut) (l' := y.mut) (by simp [hq]) hyq]; simp) hj).elim
      rw [this]
      exact blt_ge (by omega)
  have seeL : ∀ q z, q ∈ x.ls → objF (fun j => Nat.blt j i) 0 es ob0 q = some z → ∃ z', objF S 0 es ob0 q = some z' ∧ SoftEq z z' := fun q z hq hz => by
    rw [objF_upto (by omega)] at hz
    obtain ⟨z', h1, h2⟩ := objF_soft (S := S) (i := i) (q := q) (fun k y hk hy hyq => by
      by_cases hsf : q ∈ y.soft
      · exact .inr hsf
      · refine .inl (up k y hy hk ?_)
        have : q ∈ y.hard := List.mem_filter.2 ⟨hyq, by
          cases hb : memB q y.soft with
          | false => rfl
          | true => exact absurd (memB_iff.1 hb) hsf⟩
        unfold conflict
        rw [meetB_mem this hq]
        simp) (fun k y hy h1 h2 => hsoft k y hy q h1 h2) i (Nat.le_refl _) (by omega) z hz
    refine ⟨z', ?_, h2⟩
    rw [← h1]
    conv => lhs; rw [← List.take_append_drop i es]
    rw [objF_append]
    refine objF_none fun k y hy hyq => ?_
    have hy' : es[i + k]? = some y := by rw [← hy, List.getElem?_drop]
    have el : (es.take i).length = i := by simp; omega
    rw [el, Nat.zero_add]
    cases hSk : S (i + k) with
    | false => rfl
    | true =>
      rcases Nat.eq_zero_or_pos k with rfl | hk
      · rw [Nat.add_zero, hSi] at hSk; cases hSk
      · exact (down (i + k) y hy' (by omega) (by unfold conflict; rw [meetB_mem (l := x.os ++ x.ls ++ x.mut) (l' := y.mut) (by simp [hq]) hyq]; simp) hSk).elim
  obtain ⟨b, hg, hon, hoff⟩ := hop.on
  have hwant : Region.wanted o (yielded ops a.tmps) = b := by
    generalize hog : o.guard = gd at hg
    cases hg with
    | none => unfold Region.wanted; rw [hog]
    | lit h1 h2 h3 h4 h5 =>
      rename_i j g b' t d
      rw [seeS g h3] at h4
      have hy := yielded_of hf h1 h2 (asBool_ok h5 (hinv.slot g _ h4))
      unfold Region.wanted
      rw [hog]
      simp only [hy]
      cases t <;> cases b' <;> rfl
    | undef h1 h2 h3 h4 =>
      rename_i j g b'
      rw [seeS g h3] at h4
      have hy := yielded_undef hf h1 h2 (show ρ' g = undef from hinv.slot g _ h4)
      unfold Region.wanted
      rw [hog]
      simp only [hy]
      cases b' <;> rfl
  have hput : ∀ v, Fr nt (a.put o.dst v) (updo ρ' o.dst v) := fun v => by
    have hb := hop.bnd
    cases hd : o.dst with
    | none => exact hf
    | some d => rw [hd] at hb; exact hf.put hb v
  have hdst : ∀ t, x.dst = some t ↔ o.dst = some t := fun t => by rw [hop.dst]
  unfold wpOp
  simp only [ho, hwant]
  cases b with
  | false =>
    simp only [Bool.false_eq_true, if_false]
    have he := hoff rfl
    refine hk _ (updo ρ' o.dst undef) H' F' w' (hput undef) ⟨fun t d ht => ?_, ?_, hinv.all, fun k hk hins => ?_, hinv.glob, hinv.keeps, fun t ht => ?_⟩
    · rw [slotF_ins hx lateS] at ht
      split at ht
      · rename_i hxt
        obtain rfl := Option.some.inj ht
        rw [he]
        show updo ρ' o.dst undef t = undef
        rw [(hdst t).1 hxt]
        show upd ρ' t undef t = undef
        rw [upd_eq, if_pos rfl]
      · rename_i hxt
        rw [updo_ne (fun e => hxt ((hdst t).2 e))]
        exact hinv.slot t d ht
    · refine hinv.ob.sub (fun q y hq => ?_) (fun m hm _ => hinv.all m hm)
      rcases objF_ins hx hSi lateO q y.1 y.2 hq with h1 | ⟨_, h2, _⟩
      · rw [he] at h1; cases h1
      · exact h2
    · by_cases e : k = i
      · subst e; rw [ins_self] at hins; cases hins
      · rw [ins_ne e] at hins
        exact hinv.fresh k hk hins
    · rw [updo_ne (fun e => ht x (List.mem_of_getElem? hx) ((hdst t).2 e))]
      exact hinv.same t ht
  | true =>
    simp only [if_true]
    left
    obtain ⟨_, ⟨slR, obR, hslR, hobR, hrun⟩, _⟩ := hon rfl
    obtain ⟨ob2, hsub, hrun⟩ := hrun H' F' w' ρ' (objF S 0 es ob0) (fun q y hq => by
      obtain ⟨h1, h2⟩ := hobR q y hq
      by_cases hos : q ∈ x.os
      · exact ⟨y, by rw [← seeO q hos]; exact h2, .inl rfl, fun _ => rfl⟩
      · rcases h1 with h1 | h1
        · exact absurd h1 hos
        · obtain ⟨z', h3, h4⟩ := seeL q y h1 h2
          exact ⟨z', h3, h4, fun h => absurd h hos⟩) (fun t d ht => by
      obtain ⟨h1, h2⟩ := hslR t d ht
      rw [seeS t h1] at h2
      exact hinv.slot t d h2) (hinv.ob.sub (fun _ _ h => h) (hinv.fresh i hilt hSi))
    have hobs := hinv.ob.sub hsub (hinv.fresh i hilt hSi)
    refine runs_wp hrun hf fun v w'' ⟨H'', F'', hpost⟩ => ?_
    · have hstep := hpost.evo.step hobs.lt hobs.eaten_no
      have hall : AllNew H'' (n0 + 16 * es.length) := fun m hm => by
        have h1 := hinv.all m hm
        have h2 := hpost.fresh m (.inr (by omega))
        exact ⟨h2.1 h1.1, h2.2 h1.2⟩
      refine hk _ (updo ρ' o.dst v) H'' F'' w'' (hput v) ⟨fun t d ht => ?_, ?_, hall, fun k hk hins m hm1 hm2 => ?_, hinv.glob.evo hpost.evo hobs.eaten_use, hinv.keeps.trans ⟨hpost.evo.hist, hstep⟩, fun t ht => ?_⟩
      · rw [slotF_ins hx lateS] at ht
        split at ht
        · rename_i hxt
          obtain rfl := Option.some.inj ht
          rw [(hdst t).1 hxt]
          show DescOK H'' F'' w'' _ (upd ρ' t v t)
          rw [upd_eq, if_pos rfl]
          exact hpost.dst
        · rename_i hxt
          rw [updo_ne (fun e => hxt ((hdst t).2 e))]
          exact (hinv.slot t d ht).keep hpost.evo.hist hstep
      · exact hinv.ob.applyF hsub hpost (fun q s t hq => objF_ins hx hSi lateO q s t hq) fun m hm _ => hall m hm
      · by_cases e : k = i
        · subst e; rw [ins_self] at hins; cases hins
        · rw [ins_ne e] at hins
          have h1 := hinv.fresh k hk hins m hm1 hm2
          have h2 := hpost.fresh m (by omega)
          exact ⟨h2.1 h1.1, h2.2 h1.2⟩
      · rw [updo_ne (fun e => ht x (List.mem_of_getElem? hx) ((hdst t).2 e))]
        exact hinv.same t ht
end
end
end Go.Proofs.YtjeeligfdpociaaGreat

namespace Go.Proofs.YtjeeligfdpociaaGreat
open Go Go.RowKit

def offEnt (dst : Option Nat) (g : Nat) : Ent := { dst := dst, ts := [g], os := [], e := { dst := .undef } }

noncomputable def druns {R : Type} {P : Program} (E : Env P) (nt : Nat) (ops : Array Oper) : List Oper → State → List Ent → (State → Option R) → Option R
  | [], st, acc, k => bif drawOK ops.toList acc then k st else none
  | o :: os, st, acc, k => bif dstOK nt o.dst then (match o.guard with
    | none => dstep E o.dst o.op [] st (fun e x => druns E nt ops os (st.apply o.dst e) (acc ++ [x]) k)
    | some (j, b) => match gslot ops j with
      | none => none
      | some g => bif Nat.blt g nt then (match find st.slots g with
        | some .undef => druns E nt ops os (st.apply o.dst { dst := .undef }) (acc ++ [offEnt o.dst g]) k
        | some d => match asBool d with
          | some t => if t = true then
              (bif b then dstep E o.dst o.op [g] (st.put (some g) (dBool true)) (fun e x => druns E nt ops os ((st.put (some g) (dBool true)).apply o.dst e) (acc ++ [x]) k)
                else druns E nt ops os ((st.put (some g) (dBool true)).apply o.dst { dst := .undef }) (acc ++ [offEnt o.dst g]) k)
            else
              (bif b then druns E nt ops os ((st.put (some g) (dBool false)).apply o.dst { dst := .undef }) (acc ++ [offEnt o.dst g]) k
                else dstep E o.dst o.op [g] (st.put (some g) (dBool false)) (fun e x => druns E nt ops os ((st.put (some g) (dBool false)).apply o.dst e) (acc ++ [x]) k))
          | none => none
        | none => none) else none) else none

section
variable {P : Program} {nt : Nat} {ops : Array Oper} {R : Type}
variable {G : Nat → Prop} {w0 : World} {F0 : Nat → Prop} {sl0 : Nat → Option Desc} {ob0 : Nat → Option (Nat × Th)} {n0 : Nat}


/-- The lexical walk so far. -/
structure Lex (P : Program) (nt : Nat) (ops : Array Oper) (U : Nat → Prop) (sl0 : Nat → Option Desc) (ob0 : Nat → Option (Nat × Th)) (n0 : Nat) (es : List Ent) (st : State) : Prop where
  slot : ∀ t, find st.slots t = slotF yes 0 es sl0 t
  ob : ∀ o, find st.objs o = objF yes 0 es ob0 o
  nxt : st.nxt = n0 + 16 * es.length
  ok : ∀ i o x, ops[i]? = some o → es[i]? = some x → OpOK P ops nt U o (slotF yes 0 (es.take i) sl0) (objF yes 0 (es.take i) ob0) (n0 + 16 * i) x

theorem slotF_snoc {S : Nat → Bool} {es : List Ent} {x : Ent} {f : Nat → Option Desc} {t : Nat} (h : S es.length = true) : slotF S 0 (es ++ [x]) f t = if x.dst = some t then some x.e.dst else slotF S 0 es f t := by
  rw [slotF_append, Nat.zero_add]
  show (bif S es.length && optMem (some t) x.dst.toList then some x.e.dst else slotF S 0 es f t) = _
  rw [h, Bool.true_and]
  by_cases hd : x.dst = some t
  · rw [if_pos hd, dst_mem.2 hd]; rfl
  · rw [if_neg hd]
    cases hb : optMem (some t) x.dst.toList with
    | false => rfl
    | true => exact absurd (dst_mem.1 hb) hd
theorem objF_snoc {S : Nat → Bool} {es : List Ent} {x : Ent} {f : Nat → Option (Nat × Th)} {o : Nat} (h : S es.length = true) : objF S 0 (es ++ [x]) f o = (find x.e.make o).or (bif memB o x.e.eat then none else objF S 0 es f o) := by
  rw [objF_append, Nat.zero_add]
  show (bif S es.length then _ else _) = _
  rw [h]
  rfl

theorem find_apply_slots {st : State} {dst : Option Nat} {e : Eff} {t : Nat} : find (st.apply dst e).slots t = if dst = some t then some e.dst else find st.slots t := by
  cases dst with
  | none => simp [State.apply]
  | some d =>
    show find ((d, e.dst) :: st.slots) t = _
    rw [find_cons]
    by_cases h : d = t
    · simp [h]
    · simp [h]
theorem find_apply_objs {st : State} {dst : Option Nat} {e : Eff} {o : Nat} : find (st.apply dst e).objs o = (find e.make o).or (bif memB o e.eat then none else find st.objs o) := by
  show find (e.make ++ del e.eat st.objs) o = _
  rw [find_append]
  congr 1
  cases hb : memB o e.eat with
  | true =>
    rw [cond_true]
    cases h : find (del e.eat st.objs) o with
    | none => rfl
    | some x => exact absurd (memB_iff.1 hb) (find_del.1 h).1
  | false =>
    rw [cond_false]
    have hn : o ∉ e.eat := fun h => by rw [memB_iff.2 h] at hb; cases hb
    cases h : find st.objs o with
    | some x => exact find_del.2 ⟨hn, h⟩
    | none =>
      cases h2 : find (del e.eat st.objs) o with
      | none => rfl
      | some x => rw [(find_del.1 h2).2] at h; cases h

theorem Lex.snoc {U : Nat → Prop} {es : List Ent} {st : State} {x : Ent} {o : Oper} (h : Lex P nt ops U sl0 ob0 n0 es st) (ho : ops[es.length]? = some o) (hd : x.dst = o.dst)
    (hok : OpOK P ops nt U o (find st.slots) (find st.objs) st.nxt x) : Lex P nt ops U sl0 ob0 n0 (es ++ [x]) (st.apply o.dst x.e) := by
  refine ⟨fun t => ?_, fun q => ?_, ?_, fun i o' y ho' hy => ?_⟩
  · rw [find_apply_slots, slotF_snoc rfl, hd, h.slot t]
  · rw [find_apply_objs, objF_snoc rfl, h.ob q]
  · show st.nxt + 16 = _
    rw [h.nxt, List.length_append, List.length_singleton]
    omega
  · rcases Nat.lt_or_ge i es.length with hlt | hge
    · rw [List.getElem?_append_left hlt] at hy
      rw [List.take_append_of_le_length (by omega)]
      exact h.ok i o' y ho' hy
    · have hi : i = es.length := by
        have := (List.getElem?_eq_some_iff.1 hy).1
        simp at this
        omega
      subst hi
      simp at hy
      subst hy
      rw [ho] at ho'
      obtain rfl := Option.some.inj ho'
      rw [List.take_left']
      · rw [← funext h.slot, ← funext h.ob, ← h.nxt]
        exact hok
      · rfl

theorem Lex.put {U : Nat → Prop} {es : List Ent} {st : State} {g : Nat} {d : Desc} (h : Lex P nt ops U sl0 ob0 n0 es st) (hg : find st.slots g = some d) : Lex P nt ops U sl0 ob0 n0 es (st.put (some g) d) := by
  refine ⟨fun t => ?_, h.ob, h.nxt, h.ok⟩
  show find ((g, d) :: st.slots) t = _
  rw [find_cons, ← h.slot t]
  split
  · rename_i e; subst e; exact hg.symm
  · rfl

theorem asBool_eq {d : Desc} {t : Bool} (h : asBool d = some t) : d = dBool t := by
  unfold asBool at h
  split at h <;> cases h
  rfl

theorem druns_ok {E : Env P} {q : R} {k : State → Option R} : {l : List Oper} → {st : State} → {es : List Ent} → druns E nt ops l st es k = some q → (∀ j, l[j]? = ops[es.length + j]?) → Lex P nt ops (UU G w0) sl0 ob0 n0 es st →
    ∃ es' st', k st' = some q ∧ drawOK ops.toList es' = true ∧ Lex P nt ops (UU G w0) sl0 ob0 n0 es' st' ∧ es'.length = es.length + l.length
  | [], st, es, h, _, hl => by
    unfold druns at h
    obtain ⟨h1, h2⟩ := bif_eq h
    exact ⟨es, st, h2, h1, hl, rfl⟩
  | o :: l, st, es, h, hidx, hl => by
    have ho : ops[es.length]? = some o := by simpa using (hidx 0).symm
    have hidx' : ∀ x : Ent, ∀ j, l[j]? = ops[(es ++ [x]).length + j]? := fun x j => by
      have := hidx (j + 1)
      rw [List.length_append, List.length_singleton, show es.length + 1 + j = es.length + (j + 1) from by omega]
      simpa using this
    have go : ∀ {st1 : State} {x : Ent}, druns E nt ops l st1 (es ++ [x]) k = some q → Lex P nt ops (UU G w0) sl0 ob0 n0 (es ++ [x]) st1 → ∃ es' st', k st' = some q ∧ drawOK ops.toList es' = true ∧ Lex P nt ops (UU G w0) sl0 ob0 n0 es' st' ∧ es'.length = es.length + (o :: l).length := by
      intro st1 x h1 h2
      obtain ⟨es', st', a1, a2, a3, a4⟩ := druns_ok h1 (hidx' x) h2
      refine ⟨es', st', a1, a2, a3, ?_⟩
      rw [a4, List.length_append, List.length_singleton, List.length_cons]
      omega
    unfold druns at h
    obtain ⟨hd, h'⟩ := bif_eq h
    clear h
    have on : ∀ {st1 : State} {gs : List Nat}, dstep E o.dst o.op gs st1 (fun e x => druns E nt ops l (st1.apply o.dst e) (es ++ [x]) k) = some q → Lex P nt ops (UU G w0) sl0 ob0 n0 es st1 → (∀ ts : List Nat, (∀ g ∈ gs, g ∈ ts) → GOK ops nt ts (find st1.slots) o.guard true) → ∃ es' st', k st' = some q ∧ drawOK ops.toList es' = true ∧ Lex P nt ops (UU G w0) sl0 ob0 n0 es' st' ∧ es'.length = es.length + (o :: l).length := by
      intro st1 gs h1 h2 h3
      obtain ⟨e, x, a1, a2, a3, a4⟩ := dstep_ok (U := UU G w0) h1
      subst a2
      exact go a1 (h2.snoc ho a4.dst ⟨a4.dst, hd, true, h3 _ a3, fun _ => a4, fun h => by cases h⟩)
    have off : ∀ {st1 : State} {g : Nat}, druns E nt ops l (st1.apply o.dst { dst := .undef }) (es ++ [offEnt o.dst g]) k = some q → Lex P nt ops (UU G w0) sl0 ob0 n0 es st1 → GOK ops nt [g] (find st1.slots) o.guard false → ∃ es' st', k st' = some q ∧ drawOK ops.toList es' = true ∧ Lex P nt ops (UU G w0) sl0 ob0 n0 es' st' ∧ es'.length = es.length + (o :: l).length := by
      intro st1 g h1 h2 h3
      exact go (x := offEnt o.dst g) h1 (h2.snoc (x := offEnt o.dst g) ho rfl ⟨rfl, hd, false, h3, fun h => (by cases h), fun _ => rfl⟩)
    split at h'
    · rename_i hgd
      exact on h' hl fun ts _ => by rw [hgd]; exact .none
    · rename_i j b hgd
      split at h'
      case h_1 => cases h'
      rename_i g hgs
      obtain ⟨hgn, h⟩ := bif_eq h'
      clear h'
      split at h
      · rename_i hu
        exact off h hl (by rw [hgd]; exact .undef hgs hgn (by simp) hu)
      · rename_i d hsl
        split at h
        case h_2 => cases h
        rename_i t ht
        obtain rfl := asBool_eq ht
        have hfind : ∀ v : Bool, find (st.put (some g) (dBool v)).slots g = some (dBool v) := fun v => by
          show find ((g, dBool v) :: st.slots) g = _
          rw [find_cons, if_pos rfl]
        have glit : ∀ (v : Bool) (ts : List Nat) (r : Bool), g ∈ ts → r = decide (v = b) → GOK ops nt ts (find (st.put (some g) (dBool v)).slots) (some (j, b)) r := fun v ts r hg hr => by
          rw [hr]
          exact .lit hgs hgn hg (hfind v) rfl
        split at h
        · rename_i htt
          subst htt
          have hl1 := hl.put hsl
          cases b with
          | true => rw [cond_true] at h; exact on h hl1 fun ts hts => by rw [hgd]; exact glit true ts true (hts g (by simp)) rfl
          | false => rw [cond_false] at h; exact off h hl1 (by rw [hgd]; exact glit true [g] false (by simp) rfl)
        · rename_i htt
          have htt : t = false := by cases t <;> simp_all
          subst htt
          have hl1 := hl.put hsl
          cases b with
          | true => rw [cond_true] at h; exact off h hl1 (by rw [hgd]; exact glit false [g] false (by simp) rfl)
          | false => rw [cond_false] at h; exact on h hl1 fun ts hts => by rw [hgd]; exact glit false ts true (hts g (by simp)) rfl
      · cases h

def unl (m : Nat) (listed : Array Bool) : Nat := ((List.range m).filter fun j => !listed.getD j false).length

theorem unl_set {m i : Nat} {listed : Array Bool} (hi : i < m) (hs : listed.size = m) (h : listed.getD i false = false) : unl m (listed.setIfInBounds i true) + 1 ≤ unl m listed := by
  unfold unl
  have hsub : ∀ l : List Nat, (l.filter fun j => !(listed.setIfInBounds i true).getD j false).length ≤ (l.filter fun j => !listed.getD j false).length ∧ (i ∈ l → (l.filter fun j => !(listed.setIfInBounds i true).getD j false).length + 1 ≤ (l.filter fun j => !listed.getD j false).length) := by
    intro l
    induction l with
    | nil => exact ⟨Nat.le_refl _, fun h => by cases h⟩
    | cons j l ih =>
      by_cases hj : i = j
      · subst hj
        have e1 : (listed.setIfInBounds i true).getD i false = true := by simp [Array.getD_eq_getD_getElem?, hs, hi]
        rw [List.filter_cons, List.filter_cons, e1, h]
        simp only [Bool.not_true, Bool.false_eq_true, if_false, Bool.not_false, if_true, List.length_cons]
        exact ⟨by omega, fun _ => by omega⟩
      · have e1 : (listed.setIfInBounds i true).getD j false = listed.getD j false := getD_set_ne false hj
        rw [List.filter_cons, List.filter_cons, e1]
        cases listed.getD j false with
        | true =>
          simp only [Bool.not_true, Bool.false_eq_true, if_false]
          exact ⟨ih.1, fun hm => ih.2 (by simpa [hj] using hm)⟩
        | false =>
          simp only [Bool.not_false, if_true, List.length_cons]
          exact ⟨by omega, fun hm => by have := ih.2 (by simpa [hj] using hm); omega⟩
  exact (hsub _).2 (by simpa using hi)

theorem draw_ok {E : Env P} {id : Nat} {q : R} {k : State → Option R} {st : State} {H : Hist} {F : Nat → Prop} {w : World} {ρ : Nat → Value} {Q : Exit → (Nat → Value) → World → Prop} (hm : P.follows .mixedOrders = true)
    (h : druns E nt ops ops.toList st [] k = some q) (hh : Here G w0 F0 H F w ρ st)
    (hk : ∀ st' H' F' w' ρ', k st' = some q → Here G w0 F0 H' F' w' ρ' st' → Keeps H F w H' F' w' → (∀ t, (∀ o ∈ ops.toList, o.dst ≠ some t) → ρ' t = ρ t) → Q .normal ρ' w') : wpC P nt (.region id ops true) Q ρ w := by
  obtain ⟨es, st', hst', hdr, hlex, hlen⟩ := druns_ok (G := G) (w0 := w0) (sl0 := find st.slots) (ob0 := find st.objs) (n0 := st.nxt) h (fun j => by simp) ⟨fun _ => rfl, fun _ => rfl, by simp, fun i o x _ hx => by simp at hx⟩
  simp only [List.length_nil, Nat.zero_add, Array.length_toList] at hlen
  unfold drawOK at hdr
  split at hdr
  case h_2 => cases hdr
  rename_i ms hms
  have hdst : ∀ x ∈ es, ∃ o ∈ ops.toList, x.dst = o.dst := fun x hx => by
    obtain ⟨i, hi, rfl⟩ := List.getElem_of_mem hx
    have hlt : i < ops.size := by omega
    exact ⟨ops[i], by simp, (hlex.ok i ops[i] es[i] (Array.getElem?_eq_getElem hlt) (List.getElem?_eq_getElem hi)).dst⟩
  have hsoft : ∀ k y, es[k]? = some y → ∀ q, q ∈ y.soft → q ∈ y.mut → ∃ z z', objF yes 0 (es.take k) (find st.objs) q = some z ∧ find y.e.make q = some z' ∧ SoftEq z z' := fun k y hy q h1 h2 => by
    have hlt : k < es.length := (List.getElem?_eq_some_iff.1 hy).1
    obtain ⟨_, _, b, _, hon, hoff⟩ := hlex.ok k _ y (Array.getElem?_eq_getElem (by omega)) hy
    cases b with
    | true => exact (hon rfl).soft q h1 h2
    | false =>
      rw [Ent.mut, hoff rfl] at h2
      simp [keysM] at h2
  have edge_lt : ∀ i o, ops[i]? = some o → ∀ e ∈ o.after, Region.binds .any e = true → e.on < i := fun i o ho e he hb => by
    obtain ⟨m, h1, _⟩ := (ancs_ok hms).2.2 i o (by rw [Array.getElem?_toList]; exact ho)
    simp only [List.length_nil, Nat.zero_add] at h1
    exact ancE_lt h1 e (by simpa using he) hb
  intro a hf
  refine wp_region_any hm ?_
  -- every order
  have main : ∀ fuel (listed : Array Bool) (a : Act) (w' : World) H' F' ρ', listed.size = ops.size → unl ops.size listed ≤ fuel → Closed ops (fun j => listed.getD j false = true) → Fr nt a ρ' →
      Inv G w0 F0 es (find st.slots) (find st.objs) st.nxt H F w ρ (fun j => listed.getD j false) H' F' w' ρ' → wpAny P .any ops (fun e a' w' => ∃ ρ', Fr nt a' ρ' ∧ Q e ρ' w') fuel listed a w' := by
    have done : ∀ (listed : Array Bool) (a : Act) (w' : World) H' F' ρ', (∀ i, i < ops.size → listed.getD i false = true) → Fr nt a ρ' → Inv G w0 F0 es (find st.slots) (find st.objs) st.nxt H F w ρ (fun j => listed.getD j false) H' F' w' ρ' → ∃ ρ', Fr nt a ρ' ∧ Q .normal ρ' w' := by
      intro listed a w' H' F' ρ' hall hf hinv
      have eS : ∀ t, slotF (fun j => listed.getD j false) 0 es (find st.slots) t = find st'.slots t := fun t => by
        rw [hlex.slot t]
        refine slotF_congr rfl fun k x hx _ => ?_
        have := (List.getElem?_eq_some_iff.1 hx).1
        rw [Nat.zero_add]
        exact hall k (by omega)
      have eO : ∀ o, objF (fun j => listed.getD j false) 0 es (find st.objs) o = find st'.objs o := fun o => by
        rw [hlex.ob o]
        refine objF_congr rfl fun k x hx _ => ?_
        have := (List.getElem?_eq_some_iff.1 hx).1
        rw [Nat.zero_add]
        exact hall k (by omega)
      refine ⟨ρ', hf, hk st' H' F' w' ρ' hst' ⟨⟨fun t d hd => hinv.slot t d (by rw [eS]; exact hd), ?_, ?_⟩, hinv.glob⟩ hinv.keeps fun t ht => hinv.same t fun x hx => ?_⟩
      · have := hinv.ob
        rw [funext eO] at this
        rw [hlex.nxt]
        exact this
      · rw [hlex.nxt]; exact hinv.all
      · obtain ⟨o, ho, e⟩ := hdst x hx
        rw [e]
        exact ht o ho
    have ready_all : ∀ (listed : Array Bool), listed.size = ops.size → Region.ready .any ops listed = [] → ∀ i, i < ops.size → listed.getD i false = true := by
      intro listed hs hr i
      induction i using Nat.strongRecOn with
      | _ i ih =>
        intro hi
        cases hl : listed.getD i false with
        | true => rfl
        | false =>
          have : i ∈ Region.ready .any ops listed := mem_ready.2 ⟨by
            simp only [Array.getD_eq_getD_getElem?] at hl ⊢
            rw [Array.getElem?_eq_getElem (by omega)] at hl ⊢
            simpa using hl, ops[i], Array.getElem?_eq_getElem hi, fun e he hb => ih e.on (edge_lt i _ (Array.getElem?_eq_getElem hi) e he hb) (by
              have := edge_lt i _ (Array.getElem?_eq_getElem hi) e he hb
              omega)⟩
          rw [hr] at this
          cases this
    intro fuel
    induction fuel with
    | zero =>
      intro listed a w' H' F' ρ' hs hu hc hf hinv
      have hall : ∀ i, i < ops.size → listed.getD i false = true := fun i hi => by
        cases hl : listed.getD i false with
        | true => rfl
        | false =>
          have := unl_set hi hs hl
          omega
      refine ⟨?_, done listed a w' H' F' ρ' hall hf hinv⟩
      cases hr : Region.ready .any ops listed with
      | nil => rfl
      | cons i l =>
        have hi : i ∈ Region.ready .any ops listed := by rw [hr]; simp
        obtain ⟨h1, o, h2, _⟩ := mem_ready.1 hi
        have hlt := (Array.getElem?_eq_some_iff.1 h2).1
        have h3 := hall i hlt
        simp only [Array.getD_eq_getD_getElem?] at h1 h3
        rw [Array.getElem?_eq_getElem (by omega)] at h1 h3
        simp at h1 h3
        rw [h1] at h3
        cases h3
    | succ fuel ih =>
      intro listed a w' H' F' ρ' hs hu hc hf hinv
      refine ⟨fun hr => done listed a w' H' F' ρ' (ready_all listed hs hr) hf hinv, fun i hi => ?_⟩
      obtain ⟨h1, o, ho, hdeps⟩ := mem_ready.1 hi
      have hlt := (Array.getElem?_eq_some_iff.1 ho).1
      have hSi : listed.getD i false = false := by
        simp only [Array.getD_eq_getD_getElem?] at h1 ⊢
        rw [Array.getElem?_eq_getElem (by omega)] at h1 ⊢
        simpa using h1
      have hx : es[i]? = some (es[i]'(by omega)) := List.getElem?_eq_getElem (by omega)
      have hop := hlex.ok i o _ ho hx
      rw [← slotF_upto (by omega), ← objF_upto (by omega)] at hop
      have hins : (fun j => (listed.setIfInBounds i true).getD j false) = ins (fun j => listed.getD j false) i := by
        funext j
        by_cases e : j = i
        · subst e
          rw [ins_self]
          simp [Array.getD_eq_getD_getElem?, hs, hlt]
        · rw [ins_ne e]
          exact getD_set_ne false (Ne.symm e)
      refine inv_step hms hdr hlen hc ho hx hSi hdeps hsoft hop hf hinv fun a'' ρ'' H'' F'' w'' hf'' hinv'' => ?_
      refine ih _ a'' w'' H'' F'' ρ'' (by simp [hs]) ?_ ?_ hf'' ?_
      · have := unl_set hlt hs hSi
        omega
      · intro j hj o' ho' e he hb
        by_cases ej : j = i
        · subst ej
          rw [ho] at ho'
          obtain rfl := Option.some.inj ho'
          exact getD_set_true (hdeps e he hb)
        · have hj' : listed.getD j false = true := by
            have : (listed.setIfInBounds i true).getD j false = listed.getD j false := getD_set_ne false (Ne.symm ej)
            rw [← this]
            exact hj
          exact getD_set_true (hc j hj' o' ho' e he hb)
      · rw [hins]
        exact hinv''
  have hS0 : ∀ j, (Array.replicate ops.size false).getD j false = false := fun j => by
    simp only [Array.getD_eq_getD_getElem?]
    by_cases hj : j < ops.size
    · simp [hj]
    · simp [hj]
  have hw : Step F w F w.drew := Step.drew F w
  refine main ops.size _ a _ H F ρ (by simp) ?_ (fun i hi => by
    have hi' : (Array.replicate ops.size false).getD i false = true := hi
    rw [hS0] at hi'
    cases hi') hf ⟨fun t d hd => ?_, ?_, fun m hm => hh.sat.all m (by omega), fun i hi _ m hm _ => hh.sat.all m (by omega), ⟨⟨hh.glob.ext.os, hh.glob.ext.tape, hh.glob.ext.output, hh.glob.ext.size, hh.glob.ext.block⟩, hh.glob.le, hh.glob.new⟩, ⟨Hist.le.refl H, hw⟩, fun _ _ => rfl⟩
  · unfold unl
    exact Nat.le_trans (List.length_filter_le _ _) (by simp)
  · rw [slotF_none fun k x _ _ => hS0 _] at hd
    exact (hh.sat.slot t d hd).keep (Hist.le.refl H) hw
  · have e : objF (fun j => (Array.replicate ops.size false).getD j false) 0 es (find st.objs) = find st.objs := by
      funext o
      exact objF_none fun k x _ _ => hS0 _
    rw [e]
    have hb := hh.sat.ob
    refine ⟨fun o s t ho => ?_, hb.apart, fun m hm _ => hh.sat.all m (by omega), hb.lt, hb.new, hb.gl.step (fun _ h => ⟨h, rfl⟩)⟩
    obtain ⟨v, hv, hin⟩ := hb.obj o s t ho
    exact ⟨v, hv, hin.one, hin.con, hin.ok.heap (Hist.le.refl H) hw fun _ _ => rfl, hin.no, hin.lt, hin.use⟩
end
end Go.Proofs.YtjeeligfdpociaaGreat
