/- Regions whose order is drawn: every order comes to the same. -/
import Derived.Test.YtjeeligfdpociaaGreatDraw2
namespace Go.Proofs.YtjeeligfdpociaaGreat
open Go Go.RowKit

theorem laterOK_ok {ms : List Nat} {i : Nat} {x : Ent} : {l : List Ent} → {j : Nat} → laterOK ms i x j l = true → ∀ k y, l[k]? = some y → conflict x y = true → (ms.getD (j + k) 0).testBit i = true
  | [], _, _, k, y, h, _ => by simp at h
  | z :: l, j, hl, k, y, h, hc => by
    obtain ⟨h1, h2⟩ := and2 hl
    cases k with
    | zero =>
      obtain rfl : z = y := by simpa using h
      rw [hc, cond_true] at h1
      exact h1
    | succ k =>
      have := laterOK_ok h2 k y (by simpa using h) hc
      rwa [show j + 1 + k = j + (k + 1) from by omega] at this
theorem pairsOK_ok {ms : List Nat} : {l : List Ent} → {i : Nat} → pairsOK ms i l = true → ∀ a b x y, a < b → l[a]? = some x → l[b]? = some y → conflict x y = true → (ms.getD (i + b) 0).testBit (i + a) = true
  | [], _, _, a, b, x, y, _, h, _, _ => by simp at h
  | z :: l, i, hl, a, b, x, y, hab, hx, hy, hc => by
    obtain ⟨h1, h2⟩ := and2 hl
    cases a with
    | zero =>
      obtain rfl : z = x := by simpa using hx
      cases b with
      | zero => omega
      | succ b =>
        have := laterOK_ok h1 b y (by simpa using hy) hc
        rwa [show i + 1 + b = i + (b + 1) from by omega] at this
    | succ a =>
      cases b with
      | zero => omega
      | succ b =>
        have := pairsOK_ok h2 a b x y (by omega) (by simpa using hx) (by simpa using hy) hc
        rwa [show i + 1 + b = i + (b + 1) from by omega, show i + 1 + a = i + (a + 1) from by omega] at this

/-- What is asked of a guard. -/
inductive GOK (ops : Array Oper) (nt : Nat) (ts : List Nat) (sl : Nat → Option Desc) : Option (Nat × Bool) → Bool → Prop
  | none : GOK ops nt ts sl none true
  | lit {j g : Nat} {b t : Bool} {d : Desc} (h1 : gslot ops j = some g) (h2 : Nat.blt g nt = true) (h3 : g ∈ ts) (h4 : sl g = some d) (h5 : asBool d = some t) : GOK ops nt ts sl (some (j, b)) (decide (t = b))
  | undef {j g : Nat} {b : Bool} (h1 : gslot ops j = some g) (h2 : Nat.blt g nt = true) (h3 : g ∈ ts) (h4 : sl g = some .undef) : GOK ops nt ts sl (some (j, b)) false

/-- What is known of operation number i. -/
structure OpOK (P : Program) (ops : Array Oper) (nt : Nat) (U : Nat → Prop) (o : Oper) (sl : Nat → Option Desc) (ob : Nat → Option (Nat × Th)) (n : Nat) (x : Ent) : Prop where
  dst : x.dst = o.dst
  bnd : dstOK nt o.dst = true
  on : ∃ b, GOK ops nt x.ts sl o.guard b ∧ (b = true → EntOK P U o sl ob n x) ∧ (b = false → x.e = { dst := .undef })

section
variable {P : Program} {nt : Nat} {ops : Array Oper}

theorem runs_wp {ρ : Nat → Value} {o : Oper} {w : World} {QQ : Value → World → Prop} {a : Act} {K : Act → World → Prop} {Q : Exit → Act → World → Prop} (h : RunsTo P ρ ⟨o.dst, o.op, o.type, o.pos, o.after, none⟩ w QQ) (hf : Fr nt a ρ)
    (hk : ∀ v w', QQ v w' → K (a.put o.dst v) w') : o.wp P a w K Q := by
  unfold Oper.wp
  rw [hf.eval]
  unfold RunsTo at h
  have e : execOp (ev ρ) o = execOp (ev ρ) ⟨o.dst, o.op, o.type, o.pos, o.after, none⟩ := rfl
  rw [e]
  generalize (execOp (ev ρ) ⟨o.dst, o.op, o.type, o.pos, o.after, none⟩).run P w = r at *
  cases r with
  | halt x w' => exact h.elim
  | ok x w' =>
    cases x <;> first
      | exact h.elim
      | skip
    case value v => exact hk v w' h.2
    case skip => exact hk undef w' h.2
    case enter f args =>
      refine h.mono fun e w'' ⟨v, he, hv⟩ => ?_
      subst he
      exact hk v w'' hv

theorem ObSat.sub {U : Nat → Prop} {H : Hist} {F : Nat → Prop} {w : World} {ob obR : Nat → Option (Nat × Th)} {n m : Nat} (h : ObSat U H F w ob n) (hR : ∀ o x, obR o = some x → ob o = some x) (hfr : ∀ k, m ≤ k → k < m + 16 → H.val k = none ∧ H.con k = none) : ObSat U H F w obR m :=
  ⟨fun o s t ho => h.obj o s t (hR _ _ ho), fun o o' s s' t t' v v' hne ho ho' => h.apart o o' s s' t t' v v' hne (hR _ _ ho) (hR _ _ ho'), hfr, h.lt, h.new, h.gl⟩

structure Inv (G : Nat → Prop) (w0 : World) (F0 : Nat → Prop) (es : List Ent) (sl0 : Nat → Option Desc) (ob0 : Nat → Option (Nat × Th)) (n0 : Nat) (H : Hist) (F : Nat → Prop) (w : World) (ρ : Nat → Value) (S : Nat → Bool) (H' : Hist) (F' : Nat → Prop) (w' : World) (ρ' : Nat → Value) : Prop where
  slot : ∀ t d, slotF S 0 es sl0 t = some d → DescOK H' F' w' d (ρ' t)
  ob : ObSat (UU G w0) H' F' w' (objF S 0 es ob0) (n0 + 16 * es.length)
  all : AllNew H' (n0 + 16 * es.length)
  fresh : ∀ i, i < es.length → S i = false → ∀ m, n0 + 16 * i ≤ m → m < n0 + 16 * i + 16 → H'.val m = none ∧ H'.con m = none
  glob : Glob G w0 F0 w' F'
  keeps : Keeps H F w H' F' w'
  same : ∀ t, (∀ x ∈ es, x.dst ≠ some t) → ρ' t = ρ t

def ins (S : Nat → Bool) (i : Nat) : Nat → Bool := fun j => bif Nat.beq j i then true else S j
theorem ins_self {S : Nat → Bool} {i : Nat} : ins S i i = true := by simp [ins]
theorem ins_ne {S : Nat → Bool} {i j : Nat} (h : j ≠ i) : ins S i j = S j := by
  unfold ins
  cases hb : Nat.beq j i with
  | true => exact absurd (beq_true hb) h
  | false => rfl

section
variable {G : Nat → Prop} {w0 : World} {F0 : Nat → Prop} {es : List Ent} {sl0 : Nat → Option Desc} {ob0 : Nat → Option (Nat × Th)} {n0 : Nat} {H : Hist} {F : Nat → Prop} {w : World} {ρ : Nat → Value} {ms : List Nat}

theorem split_at {i : Nat} {x : Ent} (h : es[i]? = some x) : es = es.take i ++ x :: es.drop (i + 1) ∧ (es.take i).length = i := by
  have hlt : i < es.length := (List.getElem?_eq_some_iff.1 h).1
  have hx : es[i] = x := (List.getElem?_eq_some_iff.1 h).2
  refine ⟨?_, by simp; omega⟩
  rw [← hx, ← List.drop_eq_getElem_cons hlt, List.take_append_drop]

theorem slotF_ins {S : Nat → Bool} {i : Nat} {x : Ent} (hx : es[i]? = some x) (hlate : ∀ t, x.dst = some t → ∀ j y, es[j]? = some y → y.dst = some t → S j = true → j < i) (t : Nat) :
    slotF (ins S i) 0 es sl0 t = if x.dst = some t then some x.e.dst else slotF S 0 es sl0 t := by
  by_cases hd : x.dst = some t
  · rw [if_pos hd]
    obtain ⟨e1, e2⟩ := split_at hx
    rw [e1, slotF_append, e2, Nat.zero_add]
    show slotF (ins S i) (i + 1) (es.drop (i + 1)) _ t = _
    rw [slotF_none fun k y hy hyd => by
      rw [ins_ne (by omega)]
      cases hS : S (i + 1 + k) with
      | false => rfl
      | true =>
        have := hlate t hd (i + 1 + k) y (by rw [← hy, List.getElem?_drop]) hyd hS
        omega]
    rw [ins_self, dst_mem.2 hd]
    rfl
  · rw [if_neg hd]
    refine slotF_congr rfl fun k y hy hyd => ?_
    rw [Nat.zero_add]
    refine ins_ne fun e => ?_
    subst e
    rw [hx] at hy
    obtain rfl := Option.some.inj hy
    exact hd hyd

theorem objF_ins {S : Nat → Bool} {i : Nat} {x : Ent} (hx : es[i]? = some x) (hS : S i = false) (hlate : ∀ o, o ∈ x.mut → ∀ j y, es[j]? = some y → o ∈ y.mut → S j = true → j < i) (o s : Nat) (t : Th) (h : objF (ins S i) 0 es ob0 o = some (s, t)) :
    find x.e.make o = some (s, t) ∨ (o ∉ x.e.eat ∧ objF S 0 es ob0 o = some (s, t) ∧ find x.e.make o = none) := by
  by_cases hd : o ∈ x.mut
  · obtain ⟨e1, e2⟩ := split_at hx
    have late : ∀ S' : Nat → Bool, (∀ j, j ≠ i → S' j = S j) → ∀ f, objF S' (i + 1) (es.drop (i + 1)) f o = f o := fun S' hS' f => objF_none fun k y hy hyd => by
      rw [hS' _ (by omega)]
      cases hSk : S (i + 1 + k) with
      | false => rfl
      | true =>
        have := hlate o hd (i + 1 + k) y (by rw [← hy, List.getElem?_drop]) hyd hSk
        omega
    have pre : objF (ins S i) 0 (es.take i) ob0 o = objF S 0 (es.take i) ob0 o := objF_congr rfl fun k y hy _ => by
      rw [Nat.zero_add]
      refine ins_ne fun e => ?_
      have := (List.getElem?_eq_some_iff.1 hy).1
      omega
    have all : objF S 0 es ob0 o = objF S 0 (es.take i) ob0 o := by
      conv => lhs; rw [e1]
      rw [objF_append, e2, Nat.zero_add]
      show objF S (i + 1) (es.drop (i + 1)) _ o = _
      rw [late S (fun _ _ => rfl), hS]
      rfl
    conv at h => lhs; rw [e1]
    rw [objF_append, e2, Nat.zero_add] at h
    change objF (ins S i) (i + 1) (es.drop (i + 1)) _ o = _ at h
    rw [late (ins S i) (fun j hj => ins_ne hj), ins_self, cond_true, pre, ← all] at h
    cases hm : find x.e.make o with
    | some y => rw [hm] at h; exact .inl h
    | none =>
      rw [hm, Option.none_or] at h
      cases he : memB o x.e.eat with
      | true => rw [he] at h; cases h
      | false =>
        rw [he, cond_false] at h
        exact .inr ⟨fun e => (by rw [memB_iff.2 e] at he; cases he), h, rfl⟩
  · right
    have h1 : find x.e.make o = none := by
      cases hm : find x.e.make o with
      | none => rfl
      | some y => exact absurd (by simp [Ent.mut, keysM_mem hm]) hd
    refine ⟨fun e => hd (by simp [Ent.mut, e]), ?_, h1⟩
    rw [← h]
    refine (objF_congr rfl fun k y hy hyd => ?_).symm
    rw [Nat.zero_add]
    refine ins_ne fun e => ?_
    subst e
    rw [hx] at hy
    obtain rfl := Option.some.inj hy
    exact hd hyd

theorem meetB_mem {l l' : List Nat} {o : Nat} (h : o ∈ l) (h' : o ∈ l') : meetB l l' = true := by
  unfold meetB
  rw [List.any_eq_true]
  exact ⟨o, h, memB_iff.2 h'⟩

theorem blt_ge {i j : Nat} (h : i ≤ j) : Nat.blt j i = false := by
  cases hb : Nat.blt j i with
  | false => rfl
  | true => have : j < i := by simpa using hb
            omega

def yes (_ : Nat) : Bool := true
theorem slotF_upto {es : List Ent} {i : Nat} (hi : i ≤ es.length) : slotF (fun j => Nat.blt j i) 0 es sl0 = slotF yes 0 (es.take i) sl0 := by
  funext t
  conv => lhs; rw [← List.take_append_drop i es]
  rw [slotF_append, slotF_none (S := fun j => Nat.blt j i) fun k x _ _ => blt_ge (by simp; omega)]
  refine slotF_congr rfl fun k x hx _ => ?_
  have := (List.getElem?_eq_some_iff.1 hx).1
  simp at this
  simp [yes]
  omega
theorem objF_upto {es : List Ent} {i : Nat} (hi : i ≤ es.length) : objF (fun j => Nat.blt j i) 0 es ob0 = objF yes 0 (es.take i) ob0 := by
  funext t
  conv => lhs; rw [← List.take_append_drop i es]
  rw [objF_append, objF_none (S := fun j => Nat.blt j i) fun k x _ _ => blt_ge (by simp; omega)]
  refine objF_congr rfl fun k x hx _ => ?_
  have := (List.getElem?_eq_some_iff.1 hx).1
  simp at this
  simp [yes]
  omega


/-- Of an object only a place may have been taken out meanwhile. -/
theorem objF_soft {S : Nat → Bool} {i q : Nat} (hA : ∀ k y, k < i → es[k]? = some y → q ∈ y.mut → S k = true ∨ q ∈ y.soft)
    (hs : ∀ k y, es[k]? = some y → q ∈ y.soft → q ∈ y.mut → ∃ z z', objF yes 0 (es.take k) ob0 q = some z ∧ find y.e.make q = some z' ∧ SoftEq z z') :
    ∀ m, m ≤ i → m ≤ es.length → ∀ z, objF yes 0 (es.take m) ob0 q = some z → ∃ z', objF S 0 (es.take m) ob0 q = some z' ∧ SoftEq z z' := by
  intro m
  induction m with
  | zero => intro _ _ z hz; exact ⟨z, hz, .inl rfl⟩
  | succ m ih =>
    intro hm hl z hz
    have hlt : m < es.length := by omega
    have hy : es[m]? = some es[m] := List.getElem?_eq_getElem hlt
    have e1 : es.take (m + 1) = es.take m ++ [es[m]] := by rw [List.take_add_one, hy]; rfl
    have el : (es.take m).length = m := by simp; omega
    rw [e1, objF_append, el, Nat.zero_add] at hz ⊢
    generalize hgy : es[m] = y at *
    have ez : (find y.e.make q).or (bif memB q y.e.eat then none else objF yes 0 (es.take m) ob0 q) = some z := hz
    show ∃ z', (bif S m then (find y.e.make q).or (bif memB q y.e.eat then none else objF S 0 (es.take m) ob0 q) else objF S 0 (es.take m) ob0 q) = some z' ∧ SoftEq z z'
    by_cases hmut : q ∈ y.mut
    · cases hSm : S m with
      | true =>
        rw [cond_true]
        cases hmk : find y.e.make q with
        | some x => rw [hmk] at ez; exact ⟨z, ez, .inl rfl⟩
        | none =>
          have hk : q ∉ keysM y.e.make := fun hk => by
            have : ∀ l : List (Nat × (Nat × Th)), q ∈ keysM l → find l q ≠ none := by
              intro l
              induction l with
              | nil => intro h; cases h
              | cons p l ih =>
                obtain ⟨o', x⟩ := p
                intro h
                rw [find_cons]
                split
                · simp
                · rename_i hne
                  rcases List.mem_cons.1 h with h | h
                  · exact absurd h.symm hne
                  · exact ih h
            exact this _ hk hmk
          have he : memB q y.e.eat = true := memB_iff.2 (by
            rcases List.mem_append.1 hmut with h | h
            · exact h
            · exact absurd h hk)
          rw [hmk, he] at ez
          cases ez
      | false =>
        rw [cond_false]
        rcases hA m y (by omega) hy hmut with h | h
        · rw [hSm] at h; cases h
        · obtain ⟨x, x', h1, h2, h3⟩ := hs m y hy h hmut
          rw [h2] at ez
          obtain rfl := Option.some.inj ez
          obtain ⟨z', h4, h5⟩ := ih (by omega) (by omega) x h1
          exact ⟨z', h4, h3.symm.trans h5⟩
    · have h1 : find y.e.make q = none := by
        cases hm : find y.e.make q with
        | none => rfl
        | some y => exact absurd (by simp [Ent.mut, keysM_mem hm]) hmut
      have h2 : memB q y.e.eat = false := by
        cases hb : memB q y.e.eat with
        | false => rfl
        | true => exact absurd (by simp [Ent.mut, memB_iff.1 hb]) hmut
      rw [h1, h2, Option.none_or, cond_false] at ez
      obtain ⟨z', h4, h5⟩ := ih (by omega) (by omega) z ez
      refine ⟨z', ?_, h5⟩
      rw [h1, h2, Option.none_or, cond_false, h4]
      cases S m <;> rfl

/-- One operation that may come up now. -/
theorem inv_step (hms : ancs [] ops.toList = some ms) (hp : pairsOK ms 0 es = true) (hlen : es.length = ops.size) {S : Nat → Bool} (hS : Closed ops (fun j => S j = true)) {i : Nat} {o : Oper} {x : Ent} (ho : ops[i]? = some o) (hx : es[i]? = some x) (hSi : S i = false)
    (hdeps : ∀ e ∈ o.after, Region.binds .any e = true → S e.on = true) (hsoft : ∀ k y, es[k]? = some y → ∀ q, q ∈ y.soft → q ∈ y.mut → ∃ z z', objF yes 0 (es.take k) ob0 q = some z ∧ find y.e.make q = some z' ∧ SoftEq z z') (hop : OpOK P ops nt (UU G w0) o (slotF (fun j => Nat.blt j i) 0 es sl0) (objF (fun j => Nat.blt j i) 0 es ob0) (n0 + 16 * i) x)
    {H' : Hist} {F' : Nat → Prop} {w' : World} {ρ' : Nat → Value} {a : Act} (hf : Fr nt a ρ') (hinv : Inv G w0 F0 es sl0 ob0 n0 H F w ρ S H' F' w' ρ') {K : Act → World → Prop} {Q : Exit → Act → World → Prop}
    (hk : ∀ a'' ρ'' H'' F'' w'', Fr nt a'' ρ'' → Inv G w0 F0 es sl0 ob0 n0 H F w ρ (ins S i) H'' F'' w'' ρ'' → K a'' w'') : wpOp P ops Q i K a w' := by
  have hilt : i < es.length := (List.getElem?_eq_some_iff.1 hx).1
  have up : ∀ j y, es[j]? = some y → j < i → conflict y x = true → S j = true := fun j y hy hji hc => by
    have := pairsOK_ok hp j i y x hji hy hx hc
    rw [Nat.zero_add, Nat.zero_add] at this
    exact anc_in hms hS i o ho hdeps j this
  have down : ∀ j y, es[j]? = some y → i < j → conflict x y = true → S j = true → False := fun j y hy hij hc hj => by
    have := pairsOK_ok hp i j x y hij hx hy hc
    rw [Nat.zero_add, Nat.zero_add] at this
    have hjlt : j < ops.size := by have := (List.getElem?_eq_some_iff.1 hy).1; omega
    have h2 := anc_in hms hS j _ (Array.getElem?_eq_getElem hjlt) (fun e he hb => hS j hj _ (Array.getElem?_eq_getElem hjlt) e he hb) i this
    rw [hSi] at h2
    cases h2
  have lateS : ∀ t, x.dst = some t → ∀ j y, es[j]? = some y → y.dst = some t → S j = true → j < i := fun t ht j y hy hyt hj => by
    rcases Nat.lt_trichotomy j i with h | h | h
    · exact h
    · subst h; rw [hSi] at hj; cases hj
    · exact (down j y hy h (by unfold conflict; simp [optMem, ht, hyt, memB_iff]) hj).elim
  have lateO : ∀ q, q ∈ x.mut → ∀ j y, es[j]? = some y → q ∈ y.mut → S j = true → j < i := fun q hq j y hy hyq hj => by
    rcases Nat.lt_trichotomy j i with h | h | h
    · exact h
    · subst h; rw [hSi] at hj; cases hj
    · exact (down j y hy h (by unfold conflict; rw [meetB_mem hq (by simp [hyq])]; simp) hj).elim
  have seeS : ∀ t, t ∈ x.ts → slotF (fun j => Nat.blt j i) 0 es sl0 t = slotF S 0 es sl0 t := fun t ht => slotF_congr rfl fun j y hy hyt => by
    rw [Nat.zero_add]
    rcases Nat.lt_trichotomy j i with h | h | h
    · rw [up j y hy h (by unfold conflict; simp [optMem, hyt, memB_iff, ht])]
      simpa using h
    · subst h; rw [hSi]; exact blt_ge (Nat.le_refl _)
    · have : S j = false := by
        cases hj : S j with
        | false => rfl
        | true => exact (down j y hy h (by unfold conflict; simp [optMem, hyt, memB_iff, ht]) hj).elim
      rw [this]
      exact blt_ge (by omega)
  have seeO : ∀ q, q ∈ x.os → objF (fun j => Nat.blt j i) 0 es ob0 q = objF S 0 es ob0 q := fun q hq => objF_congr rfl fun j y hy hyq => by
    rw [Nat.zero_add]
    rcases Nat.lt_trichotomy j i with h | h | h
    · rw [up j y hy h (by unfold conflict; rw [meetB_mem hyq (by simp [hq])]; simp)]
      simpa using h
    · subst h; rw [hSi]; exact blt_ge (Nat.le_refl _)
    · have : S j = false := by
        cases hj : S j with
        | false => rfl
        | true => exact (down j y hy h (by unfold conflict; rw [meetB_mem (l := x.os ++ x.ls ++ x.mut) (l' := y.mut) (by simp [hq]) hyq]; simp) hj).elim
      rw [this]
      exact blt_ge (by omega)
  have seeL : ∀ q z, q ∈ x.ls → objF (fun j => Nat.blt j i) 0 es ob0 q = some z → ∃ z', objF S 0 es ob0 q = some z' ∧ SoftEq z z' := fun q z hq hz => by
    rw [objF_upto (by omega)] at hz
    obtain ⟨z', h1, h2⟩ := objF_soft (S := S) (i := i) (q := q) (fun k y hk hy hyq => by
      by_cases hsf : q ∈ y.soft
      · exact .inr hsf
      · refine .inl (up k y hy hk ?_)
        have : q ∈ y.hard := List.mem_filter.2 ⟨hyq, by
          cases hb : memB q y.soft with
          | false => rfl
          | true => exact absurd (memB_iff.1 hb) hsf⟩
        unfold conflict
        rw [meetB_mem this hq]
        simp) (fun k y hy h1 h2 => hsoft k y hy q h1 h2) i (Nat.le_refl _) (by omega) z hz
    refine ⟨z', ?_, h2⟩
    rw [← h1]
    conv => lhs; rw [← List.take_append_drop i es]
    rw [objF_append]
    refine objF_none fun k y hy hyq => ?_
    have hy' : es[i + k]? = some y := by rw [← hy, List.getElem?_drop]
    have el : (es.take i).length = i := by simp; omega
    rw [el, Nat.zero_add]
    cases hSk : S (i + k) with
    | false => rfl
    | true =>
      rcases Nat.eq_zero_or_pos k with rfl | hk
      · rw [Nat.add_zero, hSi] at hSk; cases hSk
      · exact (down (i + k) y hy' (by omega) (by unfold conflict; rw [meetB_mem (l := x.os ++ x.ls ++ x.mut) (l' := y.mut) (by simp [hq]) hyq]; simp) hSk).elim
  obtain ⟨b, hg, hon, hoff⟩ := hop.on
  have hwant : Region.wanted o (yielded ops a.tmps) = b := by
    generalize hog : o.guard = gd at hg
    cases hg with
    | none => unfold Region.wanted; rw [hog]
    | lit h1 h2 h3 h4 h5 =>
      rename_i j g b' t d
      rw [seeS g h3] at h4
      have hy := yielded_of hf h1 h2 (asBool_ok h5 (hinv.slot g _ h4))
      unfold Region.wanted
      rw [hog]
      simp only [hy]
      cases t <;> cases b' <;> rfl
    | undef h1 h2 h3 h4 =>
      rename_i j g b'
      rw [seeS g h3] at h4
      have hy := yielded_undef hf h1 h2 (show ρ' g = undef from hinv.slot g _ h4)
      unfold Region.wanted
      rw [hog]
      simp only [hy]
      cases b' <;> rfl
  have hput : ∀ v, Fr nt (a.put o.dst v) (updo ρ' o.dst v) := fun v => by
    have hb := hop.bnd
    cases hd : o.dst with
    | none => exact hf
    | some d => rw [hd] at hb; exact hf.put hb v
  have hdst : ∀ t, x.dst = some t ↔ o.dst = some t := fun t => by rw [hop.dst]
  unfold wpOp
  simp only [ho, hwant]
  cases b with
  | false =>
    simp only [Bool.false_eq_true, if_false]
    have he := hoff rfl
    refine hk _ (updo ρ' o.dst undef) H' F' w' (hput undef) ⟨fun t d ht => ?_, ?_, hinv.all, fun k hk hins => ?_, hinv.glob, hinv.keeps, fun t ht => ?_⟩
    · rw [slotF_ins hx lateS] at ht
      split at ht
      · rename_i hxt
        obtain rfl := Option.some.inj ht
        rw [he]
        show updo ρ' o.dst undef t = undef
        rw [(hdst t).1 hxt]
        show upd ρ' t undef t = undef
        rw [upd_eq, if_pos rfl]
      · rename_i hxt
        rw [updo_ne (fun e => hxt ((hdst t).2 e))]
        exact hinv.slot t d ht
    · refine hinv.ob.sub (fun q y hq => ?_) (fun m hm _ => hinv.all m hm)
      rcases objF_ins hx hSi lateO q y.1 y.2 hq with h1 | ⟨_, h2, _⟩
      · rw [he] at h1; cases h1
      · exact h2
    · by_cases e : k = i
      · subst e; rw [ins_self] at hins; cases hins
      · rw [ins_ne e] at hins
        exact hinv.fresh k hk hins
    · rw [updo_ne (fun e => ht x (List.mem_of_getElem? hx) ((hdst t).2 e))]
      exact hinv.same t ht
  | true =>
    simp only [if_true]
    left
    obtain ⟨_, ⟨slR, obR, hslR, hobR, hrun⟩, _⟩ := hon rfl
    obtain ⟨ob2, hsub, hrun⟩ := hrun H' F' w' ρ' (objF S 0 es ob0) (fun q y hq => by
      obtain ⟨h1, h2⟩ := hobR q y hq
      by_cases hos : q ∈ x.os
      · exact ⟨y, by rw [← seeO q hos]; exact h2, .inl rfl, fun _ => rfl⟩
      · rcases h1 with h1 | h1
        · exact absurd h1 hos
        · obtain ⟨z', h3, h4⟩ := seeL q y h1 h2
          exact ⟨z', h3, h4, fun h => absurd h hos⟩) (fun t d ht => by
      obtain ⟨h1, h2⟩ := hslR t d ht
      rw [seeS t h1] at h2
      exact hinv.slot t d h2) (hinv.ob.sub (fun _ _ h => h) (hinv.fresh i hilt hSi))
    have hobs := hinv.ob.sub hsub (hinv.fresh i hilt hSi)
    refine runs_wp hrun hf fun v w'' ⟨H'', F'', hpost⟩ => ?_
    · have hstep := hpost.evo.step hobs.lt hobs.eaten_no
      have hall : AllNew H'' (n0 + 16 * es.length) := fun m hm => by
        have h1 := hinv.all m hm
        have h2 := hpost.fresh m (.inr (by omega))
        exact ⟨h2.1 h1.1, h2.2 h1.2⟩
      refine hk _ (updo ρ' o.dst v) H'' F'' w'' (hput v) ⟨fun t d ht => ?_, ?_, hall, fun k hk hins m hm1 hm2 => ?_, hinv.glob.evo hpost.evo hobs.eaten_use, hinv.keeps.trans ⟨hpost.evo.hist, hstep⟩, fun t ht => ?_⟩
      · rw [slotF_ins hx lateS] at ht
        split at ht
        · rename_i hxt
          obtain rfl := Option.some.inj ht
          rw [(hdst t).1 hxt]
          show DescOK H'' F'' w'' _ (upd ρ' t v t)
          rw [upd_eq, if_pos rfl]
          exact hpost.dst
        · rename_i hxt
          rw [updo_ne (fun e => hxt ((hdst t).2 e))]
          exact (hinv.slot t d ht).keep hpost.evo.hist hstep
      · exact hinv.ob.applyF hsub hpost (fun q s t hq => objF_ins hx hSi lateO q s t hq) fun m hm _ => hall m hm
      · by_cases e : k = i
        · subst e; rw [ins_self] at hins; cases hins
        · rw [ins_ne e] at hins
          have h1 := hinv.fresh k hk hins m hm1 hm2
          have h2 := hpost.fresh m (by omega)
          exact ⟨h2.1 h1.1, h2.2 h1.2⟩
      · rw [updo_ne (fun e => ht x (List.mem_of_getElem? hx) ((hdst t).2 e))]
        exact hinv.same t ht
end
end
end Go.Proofs.YtjeeligfdpociaaGreat
