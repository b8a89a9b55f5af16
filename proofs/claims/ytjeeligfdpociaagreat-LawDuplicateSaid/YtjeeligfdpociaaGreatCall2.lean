/- What a call comes to. -/
import Derived.Test.YtjeeligfdpociaaGreatCall
namespace Go.Proofs.YtjeeligfdpociaaGreat
open Go Go.RowKit

def argSlots : Nat → List Desc → List (Nat × Desc)
  | _, [] => []
  | k, d :: ds => (k, d) :: argSlots (k + 1) ds
def phi (n : Nat) (bs : Bs) (objs1 : List (Nat × (Nat × Th))) (m : Nat) (j : Nat) : Nat :=
  bif Nat.blt j m then (match find bs j with
    | some (some o) => (match find objs1 o with
      | some _ => o
      | none => n + j)
    | _ => n + j) else n + j
def frzOf (objs1 : List (Nat × (Nat × Th))) : List Nat → List (Nat × (Nat × Th))
  | [] => []
  | o :: os => match find objs1 o with
    | some (s, t) => bif frozenB t then (o, (s, t)) :: frzOf objs1 os else frzOf objs1 os
    | none => frzOf objs1 os
def always (_ : Row) : Bool := true

/-- What the results of a call may rest on: nothing that was lent. -/
def flatOut (sg : Sig) : Bool := slotsB Row.flatB sg.out.slots && objsB Row.flatB sg.out.objs

def eCallE {R : Type} (sg : Sig) (n : Nat) (bs : Bs) (objs1 : List (Nat × (Nat × Th))) (nd : List Nat) (y : tupDen sg.out.rows) (k : Eff → Option R) : Option R :=
  match dstOf (resS (renS (phi n bs objs1 sg.inn.nxt) sg.out.slots) (ofTup _ y)).1 with
  | some D => bif flatOut sg then k { dst := D, eat := boundB bs, make := resO n (renO (phi n bs objs1 sg.inn.nxt) sg.out.objs) (resS (renS (phi n bs objs1 sg.inn.nxt) sg.out.slots) (ofTup _ y)).2 }
      else k { dst := D, eat := boundB bs ++ nd, make := resO n (renO (phi n bs objs1 sg.inn.nxt) sg.out.objs) (resS (renS (phi n bs objs1 sg.inn.nxt) sg.out.slots) (ofTup _ y)).2 ++ frzOf objs1 nd }
  | none => none

/-- The first contract of f that fits the arguments. -/
def eCallD {R : Type} (objs : List (Nat × (Nat × Th))) (n : Nat) (f : FuncId) (ds : List Desc) (k : Eff → Option R) : List (Nat × Sig) → Option R
  | [] => none
  | (g, sg) :: tab => bif Nat.beq g f then (match packV 0 [] sg.inn (argSlots 0 ds) objs with
      | some (x, bs, objs1) => bif Nat.beq ds.length sg.inn.slots.length && idxS 0 sg.out.slots && Nat.ble sg.out.nxt 16 && Nat.ble sg.out.objs.length 16 && (slotsB always sg.out.slots) then
          (sg.fn x).bind fun y => eCallE sg n bs objs1 (needV 0 sg.inn (argSlots 0 ds) objs) y k else none
      | none => eCallD objs n f ds k tab) else eCallD objs n f ds k tab

def capD (c : Nat × List Bool × Nat) : Desc := .ptr c.1 c.2.1 c.2.2
theorem caps_descs {H : Hist} {F : Nat → Prop} {w : World} : {cs : List (Nat × List Bool × Nat)} → {vs : List Value} → CapsOK H cs vs → DescsOK H F w (cs.map capD) vs
  | [], _, h => h
  | _ :: _, _, h => by obtain ⟨v, us, e, h1, h3⟩ := h; exact ⟨v, us, e, h1, caps_descs h3⟩
theorem descs_append {H : Hist} {F : Nat → Prop} {w : World} : {ds es : List Desc} → {vs us : List Value} → DescsOK H F w ds vs → DescsOK H F w es us → DescsOK H F w (ds ++ es) (vs ++ us)
  | [], _, vs, _, h, h' => by rw [show vs = [] from h]; exact h'
  | _ :: _, _, _, _, h, h' => by obtain ⟨v, us, rfl, h1, h2⟩ := h; exact ⟨v, _, rfl, h1, descs_append h2 h'⟩

/-- The function that is called, and what its value holds. -/
def calleeD (rd : Operand → Option Desc) (x : Operand) : Option (FuncId × List (Nat × List Bool × Nat)) :=
  match rd x with
  | some (.fn f caps) => some (f, caps)
  | _ => none

def eCall {R : Type} (tab : List (Nat × Sig)) (rd : Operand → Option Desc) (objs : List (Nat × (Nat × Th))) (n : Nat) (x : Operand) (args : List Operand) (k : Eff → Option R) : Option R :=
  match calleeD rd x with
  | some (f, caps) => match descs rd args with
    | some ds => eCallD objs n f (ds ++ caps.map capD) k tab
    | none => none
  | none => none

section
variable {P : Program} {ρ : Nat → Value} {w w' : World} {H H' : Hist} {F F' : Nat → Prop} {U : Nat → Prop} {n : Nat} {R : Type}
variable {ty : TypeId} {pos : String} {aft : Array Edge} {dst : Option Nat}

theorem argSlots_ok : {ds : List Desc} → {vs : List Value} → {k : Nat} → DescsOK H F w ds vs → ∀ t d, find (argSlots k ds) t = some d → k ≤ t ∧ DescOK H F w d (vs.getD (t - k) undef)
  | [], _, _, _, _, _, h => by cases h
  | d0 :: ds, vs, k, h, t, d, hf => by
    obtain ⟨v, us, rfl, h1, h2⟩ := h
    have hf' : find ((k, d0) :: argSlots (k + 1) ds) t = some d := hf
    rw [find_cons] at hf'
    split at hf'
    · rename_i e
      subst e
      obtain rfl := Option.some.inj hf'
      exact ⟨Nat.le_refl _, by simpa using h1⟩
    · obtain ⟨h3, h4⟩ := argSlots_ok h2 t d hf'
      refine ⟨by omega, ?_⟩
      rw [show t - k = (t - (k + 1)) + 1 from by omega]
      simpa using h4

theorem frzOf_find {objs1 : List (Nat × (Nat × Th))} : {nd : List Nat} → {o s : Nat} → {t : Th} → find (frzOf objs1 nd) o = some (s, t) → o ∈ nd ∧ find objs1 o = some (s, t) ∧ frozenB t = true
  | [], _, _, _, h => by cases h
  | o0 :: nd, o, s, t, h => by
    unfold frzOf at h
    split at h
    · rename_i s0 t0 h0
      cases hb : frozenB t0 with
      | true =>
        rw [hb, cond_true, find_cons] at h
        split at h
        · rename_i e
          simp only [Option.some.injEq, Prod.mk.injEq] at h
          obtain ⟨rfl, rfl⟩ := h
          subst e
          exact ⟨by simp, h0, hb⟩
        · obtain ⟨a, b⟩ := frzOf_find h
          exact ⟨by simp [a], b⟩
      | false =>
        rw [hb, cond_false] at h
        obtain ⟨a, b⟩ := frzOf_find h
        exact ⟨by simp [a], b⟩
    · obtain ⟨a, b⟩ := frzOf_find h
      exact ⟨by simp [a], b⟩

theorem conAt_append {l l' : List (Nat × (Nat × Th))} {m : Nat} : conAt (l ++ l') m = (conAt l m).or (conAt l' m) := by
  induction l with
  | nil => rfl
  | cons p l ih =>
    obtain ⟨o, s, t⟩ := p
    show (bif Nat.beq s m then some t else conAt (l ++ l') m) = ((bif Nat.beq s m then some t else conAt l m)).or (conAt l' m)
    cases Nat.beq s m
    · exact ih
    · rfl

theorem slotsB_mono {p q : Row → Bool} (hpq : ∀ r, p r = true → q r = true) : {l : List (Nat × SS)} → slotsB p l = true → slotsB q l = true
  | [], _ => rfl
  | (t, s) :: l, h => by
    obtain ⟨h1, h2⟩ := and2 h
    have ht : ∀ sh : Sh, sh.allB p = true → sh.allB q = true := by
      intro sh
      induction sh with
      | leaf r => exact hpq r
      | own j => exact fun h => h
      | nil => exact fun h => h
      | pair a b iha ihb => intro h; obtain ⟨g1, g2⟩ := and2 h; show (a.allB q && b.allB q) = true; rw [iha g1, ihb g2]; rfl
    have hall : ∀ s : SS, s.allB p = true → s.allB q = true := by
      intro s
      induction s with
      | ifc T s ih => exact ih
      | val agg t => exact ht t
      | ptr j p off => exact fun _ => rfl
      | «at» r => exact fun h => by cases h
      | undef => exact fun _ => rfl
      | fn f js => exact fun _ => rfl
    have : s.allB q = true := hall s h1
    show (s.allB q && slotsB q l) = true
    rw [this, slotsB_mono hpq h2]
    rfl
theorem objsB_always : {l : List (Nat × OS)} → objsB always l = true
  | [] => rfl
  | (t, s) :: l => by
    have ht : ∀ sh : Sh, sh.allB always = true := by
      intro sh
      induction sh with
      | leaf r => rfl
      | own j => rfl
      | nil => rfl
      | pair a b iha ihb => show (a.allB always && b.allB always) = true; rw [iha, ihb]; rfl
    have : s.allB always = true := by
      cases s with
      | box T t => exact ht t
      | own T r => rfl
      | map T K agg V => rfl
      | deep T d =>
        have hd : ∀ d : DR, d.allB always = true := by
          intro d
          induction d with
          | leaf r => rfl
          | sl T d ih => exact ih
          | pair a b iha ihb => show (a.allB always && b.allB always) = true; rw [iha, ihb]; rfl
        exact hd d
      | dmap T K E r => rfl
    show (s.allB always && objsB always l) = true
    rw [this, objsB_always]
    rfl

/-- What stands behind the call, in the caller's names. -/
def backH (H H' : Hist) (n : Nat) (cons : List (Nat × (Nat × Th))) (m0 : Nat) : Hist where
  val m := if n ≤ m ∧ m < n + 16 then H'.val (m - n) else H.val m
  con m := if n ≤ m ∧ m < n + 16 then conAt cons m else H.con m
  sub m := if n ≤ m ∧ m < n + 16 then H'.sub (m - n + m0) else H.sub m

theorem run_callv {dd : Option Nat} {f : FuncId} {fn : Func} {g : Operand} {args : Array Operand} {vs us : List Value} {tys : Array TypeId} (hf : P.funcs[f]? = some fn) (hn : (fn.name == "runtime.NumGoroutine") = false) (hb : fn.body.isNone = false) (hxs : args.toList.map (ev ρ) = vs) (hg : ev ρ g = .func (.func f) #[] us.toArray) :
    (execOp (ev ρ) ⟨dd, .call { callee := .value g, args := args, argTypes := tys }, ty, pos, aft, none⟩).run P w = .ok (.enter f (vs ++ us).toArray) w := by
  subst hxs
  have hn' : ¬ fn.name = "runtime.NumGoroutine" := by simpa using hn
  have hb' : ¬ fn.body = none := by
    intro e
    rw [e] at hb
    cases hb
  have e : (Array.map (ev ρ) args ++ us.toArray) = (args.toList.map (ev ρ) ++ us).toArray := by simp
  simp [execOp, resolve, hg, Deferred.ofValue, invoke, callFunc, hf, hn', hb', go_sem, e]

theorem eCall1_ok {sg : Sig} {f : FuncId} (htab : FnOK P f sg) {objs : List (Nat × (Nat × Th))} {op : Op} {k : Eff → Option R} {q : R} {ds : List Desc} {vs : List Value} {x : tupDen sg.inn.rows} {bs : Bs} {objs1 : List (Nat × (Nat × Th))}
    (hdsok : DescsOK H F w ds vs) (hrun : ∀ fn, P.funcs[f]? = some fn → (fn.name == "runtime.NumGoroutine") = false → fn.body.isNone = false → (execOp (ev ρ) ⟨dst, op, ty, pos, aft, none⟩).run P w = .ok (.enter f vs.toArray) w) (hs : ObSat U H F w (find objs) n)
    (hpk : packV 0 [] sg.inn (argSlots 0 ds) objs = some (x, bs, objs1))
    (h' : (bif Nat.beq ds.length sg.inn.slots.length && idxS 0 sg.out.slots && Nat.ble sg.out.nxt 16 && Nat.ble sg.out.objs.length 16 && (slotsB always sg.out.slots) then
          (sg.fn x).bind fun y => eCallE sg n bs objs1 (needV 0 sg.inn (argSlots 0 ds) objs) y k else none) = some q) :
    ∃ e, k e = some q ∧ Says P U H F w ρ (find objs) n ⟨dst, op, ty, pos, aft, none⟩ e := by
  obtain ⟨hc, h'⟩ := bif_eq h'
  obtain ⟨hc, hc5⟩ := and2 hc
  obtain ⟨hc, hc4⟩ := and2 hc
  obtain ⟨hc, hc3⟩ := and2 hc
  obtain ⟨hc1, hc2⟩ := and2 hc
  have hc1 := beq_true hc1
  have hc3 : sg.out.nxt ≤ 16 := by simpa using hc3
  have hc4 : sg.out.objs.length ≤ 16 := by simpa using hc4
  obtain ⟨y, hy, h⟩ := bind_some h'
  clear h'
  obtain ⟨⟨fn, hf1, hf2, hf3⟩, hok⟩ := htab
  have hdlen := descsOK_length hdsok
  -- the arguments, as the callee sees them
  let H0 : Hist := ⟨fun _ => none, fun _ => none, fun _ _ => False⟩
  have hs0 : ObSat U H0 F w (find (del [] [])) 0 := ⟨fun _ _ _ h => (by cases h), fun _ _ _ _ _ _ _ _ _ h => (by cases h), fun _ _ _ => ⟨rfl, rfl⟩, hs.lt, hs.new, hs.gl⟩
  have hk0 : Keeps H0 F w H F w := ⟨⟨fun _ _ h => (by cases h), fun _ _ h => (by cases h), fun _ _ h => (by cases h)⟩, Step.refl F w⟩
  have hsl : ∀ t d, find (argSlots 0 ds) t = some d → DescOK H F w d (vs.getD t undef) := fun t d hd => by simpa using (argSlots_ok hdsok t d hd).2
  obtain ⟨F1, H1, hs1, hF1, hF2, hfz, hle0, hbinds, hall1, hslots, hobs⟩ := packV_ok (U' := fun k => w.heap.size ≤ k ∨ ∃ o ∈ boundB bs, ∃ s t v, find objs1 o = some (s, t) ∧ H.val o = some v ∧ fp (H.sub s) v t k) (ns := []) (objs0 := []) (ρ := fun t => vs.getD t undef) hpk hs0 (fun _ _ => ⟨rfl, rfl⟩) hk0 hs hsl
  have hobs := hobs (fun b hb => .inl hb) (fun o s t v k h1 h2 h3 h4 => .inr ⟨o, h1, s, t, v, h2, h3, h4⟩) (fun _ _ _ _ _ h => by cases h)
  generalize hG : (fun k => ∃ o ∈ boundB bs, ∃ s t v, find objs1 o = some (s, t) ∧ H.val o = some v ∧ fp (H.sub s) v t k) = G
  have hGno : ∀ k, G k → ¬ F1 k := by
    rw [← hG]
    rintro k ⟨o, _, s, t, v, h1, h2, h3⟩
    obtain ⟨v', hv', hin⟩ := hs1.obj _ _ _ h1
    rw [h2] at hv'
    obtain rfl := Option.some.inj hv'
    exact hin.no k h3
  have hGe : ∀ k, G k → eaten H (find objs) (boundB bs) k := by
    rw [← hG]
    rintro k ⟨o, ho, s, t, v, h1, h2, h3⟩
    rcases frzAll_find hfz o s t h1 with h4 | h4
    · exact ⟨o, ho, s, t, v, h4, h2, h3⟩
    · exact (fp_frozen h4 h3).elim
  have hobs' : ObSat (fun k => w.heap.size ≤ k ∨ G k) H1 F1 w (find (resO 0 sg.inn.objs (resS sg.inn.slots (ofTup sg.inn.rows x)).2)) sg.inn.nxt := by
    rw [show del [] ([] : List (Nat × (Nat × Th))) = [] from rfl, List.append_nil] at hobs
    rw [← hG]
    exact hobs
  have hcall := hok x y hy vs w H1 F1 G (by omega) hslots hobs' hall1 hGno
  generalize hnd : needV 0 sg.inn (argSlots 0 ds) objs = nd at h hF2 hfz
  generalize hφ : phi n bs objs1 sg.inn.nxt = φ at h
  unfold eCallE at h
  rw [hφ] at h
  split at h
  case h_2 => cases h
  rename_i D hD
  have hen : ∀ (e : Eff), e.dst = D → (∀ (w' : World) (us : List Value) (H' : Hist) (F' : Nat → Prop), us.length = sg.out.slots.length → Ext G w w' → H1.le H' → (∀ b, F1 b → F' b) → (∀ b, F' b → F1 b ∨ w.heap.size ≤ b ∨ G b) →
      (∀ t d, find (resS sg.out.slots (ofTup sg.out.rows y)).1 t = some d → DescOK H' F' w' d (us.getD t undef)) → ObSat (fun k => w.heap.size ≤ k ∨ G k) H' F' w' (find (resO sg.inn.nxt sg.out.objs (resS sg.out.slots (ofTup sg.out.rows y)).2)) sg.out.nxt → AllNew H' sg.out.nxt → PostE H F w (find objs) n e (retV us) w') →
      Says P U H F w ρ (find objs) n ⟨dst, op, ty, pos, aft, none⟩ e := by
    intro e he hpost
    have hrun := hrun fn hf1 hf2 hf3
    unfold Says RunsTo
    rw [hrun]
    refine hcall.mono fun e' w' ⟨us, he', hul, H', F', a1, a2, a3, a4, a5, a6, a7⟩ => ⟨_, he', hpost w' us H' F' hul a1 a2 a3 a4 a5 a6 a7⟩
  generalize hcons : resO n (renO φ sg.out.objs) (resS (renS φ sg.out.slots) (ofTup sg.out.rows y)).2 = cons at h
  have hsnd := resS_snd (φ := φ) sg.out.slots (ofTup sg.out.rows y)
  -- the names
  have hren : ∀ {H' : Hist}, H1.le H' → AllNew H' sg.out.nxt → Ren H' (backH H H' n cons sg.inn.nxt) φ ∧ H.le (backH H H' n cons sg.inn.nxt) ∧ ∀ m, (m < n ∨ n + 16 ≤ m) → (H.val m = none → (backH H H' n cons sg.inn.nxt).val m = none) ∧ (H.con m = none → (backH H H' n cons sg.inn.nxt).con m = none) := by
    intro H' hle hfr
    have hjlt : ∀ j v, H'.val j = some v → j < sg.out.nxt := fun j v hj => by
      rcases Nat.lt_or_ge j sg.out.nxt with g | g
      · exact g
      · rw [(hfr j g).1] at hj; cases hj
    have hold : ∀ o v, H.val o = some v → ¬ (n ≤ o ∧ o < n + 16) := fun o v ho hc => by
      rw [(hs.fresh o hc.1 hc.2).1] at ho; cases ho
    refine ⟨fun j v hj => ?_, ⟨fun o v ho => ?_, fun s t hst => ?_, fun s t hst => ?_⟩, fun m hm => ?_⟩
    · rw [← hφ]
      have hjn := hjlt j v hj
      have gen : (backH H H' n cons sg.inn.nxt).val (n + j) = some v := by
        simp only [backH]
        rw [if_pos (by omega), Nat.add_sub_cancel_left]
        exact hj
      unfold phi
      cases hb : Nat.blt j sg.inn.nxt with
      | false => simpa using gen
      | true =>
        rw [cond_true]
        split
        · rename_i o ho
          split
          case h_2 => exact gen
          rename_i e he
          obtain ⟨u, hu, _⟩ := hs1.obj o e.1 e.2 he
          have h1 := hle.val _ _ (hbinds j (some o) ho u hu)
          rw [hj] at h1
          obtain rfl := Option.some.inj h1
          simp only [backH]
          rw [if_neg (hold o _ hu)]
          exact hu
        · exact gen
    · simp only [backH]
      rw [if_neg (hold o v ho)]
      exact ho
    · simp only [backH]
      rw [if_neg (fun hc => by rw [(hs.fresh s hc.1 hc.2).2] at hst; cases hst)]
      exact hst
    · simp only [backH]
      rw [if_neg (fun hc => by rw [(hs.fresh s hc.1 hc.2).2] at hst; cases hst)]
    · simp only [backH]
      rw [if_neg (by omega), if_neg (by omega)]
      exact ⟨id, id⟩
  -- the carried objects, made
  have made : ∀ {p : Row → Bool} {us : List Value} {w' : World} {H' : Hist} {F' F2 : Nat → Prop} {eat : List Nat}, us.length = sg.out.slots.length → slotsB p sg.out.slots = true → objsB p sg.out.objs = true → Moves p F' F2 w' → Ext G w w' → H1.le H' → (∀ b, F2 b → F' b) → (∀ o, o ∈ boundB bs → o ∈ eat) →
      (∀ t d, find (resS sg.out.slots (ofTup sg.out.rows y)).1 t = some d → DescOK H' F' w' d (us.getD t undef)) → ObSat (fun k => w.heap.size ≤ k ∨ G k) H' F' w' (find (resO sg.inn.nxt sg.out.objs (resS sg.out.slots (ofTup sg.out.rows y)).2)) sg.out.nxt → AllNew H' sg.out.nxt →
      DescOK (backH H H' n cons sg.inn.nxt) F2 w' D (retV us) ∧ Made (backH H H' n cons sg.inn.nxt) F2 w w' (eaten H (find objs) eat) cons ∧ ∀ o, (find cons o).isSome → o ∈ eat ∨ n ≤ o := by
    intro p us w' H' F' F2 eat hul hp1 hp2 hmv hext hle hF2 heat hsl' hob' hall'
    obtain ⟨hr, _, _⟩ := hren hle hall'
    have hback : ∀ o s t, find cons o = some (s, t) → ∃ j s' us sh, φ j = o ∧ t = (resO1 (sh.ren φ) us).1 ∧ find (resO sg.inn.nxt sg.out.objs (resS sg.out.slots (ofTup sg.out.rows y)).2) j = some (s', (resO1 sh us).1) ∧ sh.allB p = true ∧ conAt cons s = some t ∧ n ≤ s ∧ s < n + 16 ∧ (backH H H' n cons sg.inn.nxt).sub s = H'.sub s' := by
      intro o s t ho
      rw [← hcons] at ho ⊢
      rw [hsnd] at ho ⊢
      obtain ⟨j, s', us', sh, a1, a2, a3, a4, a5, a6, a7, a8⟩ := resO_ren (m' := sg.inn.nxt) ho
      have hlt : s < n + 16 := by omega
      refine ⟨j, s', us', sh, a1, a2, a3, a4 hp2, a5, a6, hlt, ?_⟩
      simp only [backH]
      rw [if_pos ⟨a6, hlt⟩, a8]
    refine ⟨?_, ⟨fun o s t ho => ?_, fun o o' s s' t t' v v' hne ho ho' hv hv' k hk hk' => ?_⟩, fun o ho => ?_⟩
    · exact dst_ok (by rw [idxS_ren]; exact hc2) (by rw [renS_length]; exact hul) (resS_ren hr hmv hp1 hsl') hD
    · obtain ⟨j, s', us', sh, rfl, rfl, a3, a4, a5, a6, a7, a8⟩ := hback o s t ho
      rw [a8]
      obtain ⟨v, hv, hin⟩ := hob'.obj _ _ _ a3
      obtain ⟨b1, b2, b3⟩ := resO1_ren hr hmv a4 hin.ok
      refine ⟨v, hr j v hv, hin.one, ?_, b1, fun k hk => ⟨fun e => hin.no k (b3 k hk) (hF2 k e), hin.lt k (b3 k hk), ?_⟩⟩
      · rw [b2]
        simp only [backH]
        rw [if_pos ⟨a6, a7⟩]
        exact a5
      · rcases hin.use k (b3 k hk) with h1 | h1
        · exact .inl h1
        · obtain ⟨o', ho', rest⟩ := hGe k h1
          exact .inr ⟨o', heat o' ho', rest⟩
    · obtain ⟨j, s1, us1, sh, rfl, rfl, a3, a4, a5, a6, _, a8⟩ := hback o s t ho
      obtain ⟨j', s1', us1', sh', rfl, rfl, a3', a4', a5', a6', _, a8'⟩ := hback o' s' t' ho'
      rw [a8] at hk
      rw [a8'] at hk'
      obtain ⟨u, hu, hin⟩ := hob'.obj _ _ _ a3
      obtain ⟨u', hu', hin'⟩ := hob'.obj _ _ _ a3'
      have e1 := hr j u hu
      rw [hv] at e1
      obtain rfl := Option.some.inj e1
      have e2 := hr j' u' hu'
      rw [hv'] at e2
      obtain rfl := Option.some.inj e2
      exact hob'.apart j j' _ _ _ _ _ _ (fun e => hne (by rw [e])) a3 a3' hu hu' k ((resO1_ren hr hmv a4 hin.ok).2.2 k hk) ((resO1_ren hr hmv a4' hin'.ok).2.2 k hk')
    · obtain ⟨e, he⟩ := Option.isSome_iff_exists.1 ho
      obtain ⟨j, s', us', sh, rfl, _⟩ := hback o e.1 e.2 he
      rw [← hφ]
      unfold phi
      cases Nat.blt j sg.inn.nxt with
      | false => exact .inr (by simp)
      | true =>
        rw [cond_true]
        split
        · rename_i o ho
          split
          · exact .inl (heat o (boundB_mem ho))
          · exact .inr (by omega)
        · exact .inr (by omega)
  have extE : ∀ {w' : World} {eat : List Nat}, Ext G w w' → (∀ o, o ∈ boundB bs → o ∈ eat) → Ext (eaten H (find objs) eat) w w' := fun hext heat => ⟨hext.os, hext.tape, hext.output, hext.size, fun k hk hn => hext.block k hk fun hG => hn (by
    obtain ⟨o, ho, rest⟩ := hGe k hG
    exact ⟨o, heat o ho, rest⟩)⟩
  cases hfl : flatOut sg with
  | true =>
    rw [hfl, cond_true] at h
    obtain ⟨p1, p2⟩ := and2 hfl
    refine ⟨_, h, hen _ rfl fun w' us H' F' hul a1 a2 a3 a4 a5 a6 a7 => ?_⟩
    obtain ⟨_, g2, g3⟩ := hren a2 a7
    obtain ⟨m1, m2, m3⟩ := made (F2 := F) (eat := boundB bs) hul p1 p2 (fun r hr cs x hx => Rep.ofFlat hr hx) a1 a2 (fun b hb => a3 b (hF1 b hb)) (fun _ h => h) a5 a6 a7
    exact ⟨_, F, ⟨g2, extE a1 (fun _ h => h), fun _ h => h, fun _ h => .inl h, fun b hb => Nat.lt_of_lt_of_le (hs.lt b hb) a1.size⟩, g3, m1, m2, m3⟩
  | false =>
    rw [hfl, cond_false] at h
    refine ⟨_, h, hen _ rfl fun w' us H' F' hul a1 a2 a3 a4 a5 a6 a7 => ?_⟩
    obtain ⟨_, g2, g3⟩ := hren a2 a7
    obtain ⟨m1, m2, m3⟩ := made (F2 := F') (eat := boundB bs ++ nd) hul hc5 objsB_always (fun r _ cs x hx => hx) a1 a2 (fun _ h => h) (fun o h => by simp [h]) a5 a6 a7
    have hst : Step F1 w F' w' := fun b hb => ⟨a3 b hb, a1.block b (hs1.lt b hb) fun e => hGno b e hb⟩
    have frz : ∀ o s t, find (frzOf objs1 nd) o = some (s, t) → o ∈ nd ∧ frozenB t = true ∧ ∃ v, H.val o = some v ∧ v.oneCell' = true ∧ H.con s = some t.base ∧ ThOK H F1 w (H.sub s) v t := by
      intro o s t ho
      obtain ⟨b1, b2, b3⟩ := frzOf_find ho
      obtain ⟨v, hv, hin⟩ := hs1.obj _ _ _ b2
      exact ⟨b1, b3, v, hv, hin.one, hin.con, hin.ok⟩
    have part : ∀ o s t, find (cons ++ frzOf objs1 nd) o = some (s, t) → find cons o = some (s, t) ∨ find (frzOf objs1 nd) o = some (s, t) := by
      intro o s t ho
      rw [find_append] at ho
      cases hm : find cons o with
      | some e => rw [hm] at ho; exact .inl ho
      | none => rw [hm, Option.none_or] at ho; exact .inr ho
    refine ⟨_, F', ⟨g2, extE a1 (fun o h => by simp [h]), fun b hb => a3 b (hF1 b hb), fun b hb => ?_, a6.lt⟩, g3, m1, ⟨fun o s t ho => ?_, fun o o' s s' t t' v v' hne ho ho' hv hv' k hk hk' => ?_⟩, fun o ho => ?_⟩
    · rcases a4 b hb with h1 | h1 | h1
      · rcases hF2 b h1 with h2 | ⟨o, ho, rest⟩
        · exact .inl h2
        · exact .inr (.inr ⟨o, by simp [ho], rest⟩)
      · exact .inr (.inl h1)
      · obtain ⟨o, ho, rest⟩ := hGe b h1
        exact .inr (.inr ⟨o, by simp [ho], rest⟩)
    · rcases part o s t ho with h1 | h1
      · exact m2.obj o s t h1
      · obtain ⟨b1, b2, v, b3, b4, b5, b6⟩ := frz o s t h1
        refine ⟨v, g2.val _ _ b3, b4, g2.con _ _ b5, by rw [g2.sub _ _ b5]; exact b6.heap g2 hst (fun k hk => (fp_frozen b2 hk).elim), fun k hk => (fp_frozen b2 hk).elim⟩
    · rcases part o s t ho with h1 | h1 <;> rcases part o' s' t' ho' with h2 | h2
      · exact m2.apart o o' s s' t t' v v' hne h1 h2 hv hv' k hk hk'
      · exact fp_frozen (frz o' s' t' h2).2.1 hk'
      · exact fp_frozen (frz o s t h1).2.1 hk
      · exact fp_frozen (frz o s t h1).2.1 hk
    · obtain ⟨e, he⟩ := Option.isSome_iff_exists.1 ho
      rcases part o e.1 e.2 he with h1 | h1
      · exact m3 o (by rw [h1]; rfl)
      · exact .inl (by simp [(frz o _ _ h1).1])

theorem eCallD_ok {tab0 : List (Nat × Sig)} (htab : ∀ p ∈ tab0, FnOK P p.1 p.2) {objs : List (Nat × (Nat × Th))} {f : FuncId} {op : Op} {k : Eff → Option R} {q : R} {ds : List Desc} {vs : List Value}
    (hdsok : DescsOK H F w ds vs) (hrun : ∀ fn, P.funcs[f]? = some fn → (fn.name == "runtime.NumGoroutine") = false → fn.body.isNone = false → (execOp (ev ρ) ⟨dst, op, ty, pos, aft, none⟩).run P w = .ok (.enter f vs.toArray) w) (hs : ObSat U H F w (find objs) n) : {tab : List (Nat × Sig)} → (∀ p ∈ tab, p ∈ tab0) → eCallD objs n f ds k tab = some q →
    ∃ e, k e = some q ∧ Says P U H F w ρ (find objs) n ⟨dst, op, ty, pos, aft, none⟩ e
  | [], _, h => by cases h
  | (f0, sg) :: tab, hin, h => by
    unfold eCallD at h
    cases hb : Nat.beq f0 f with
    | false => rw [hb, cond_false] at h; exact eCallD_ok htab hdsok hrun hs (fun p hp => hin p (by simp [hp])) h
    | true =>
      rw [hb, cond_true] at h
      obtain rfl := beq_true hb
      split at h
      case h_2 => exact eCallD_ok htab hdsok hrun hs (fun p hp => hin p (by simp [hp])) h
      rename_i x bs objs1 hpk
      exact eCall1_ok (htab (f0, sg) (hin _ (by simp))) hdsok hrun hs hpk h

theorem eCall_ok {tab : List (Nat × Sig)} (htab : ∀ p ∈ tab, FnOK P p.1 p.2) {rd : Operand → Option Desc} (hrd : ∀ x d, rd x = some d → DescOK H F w d (ev ρ x)) {objs : List (Nat × (Nat × Th))} {g : Operand} {args : Array Operand} {tys : Array TypeId} {k : Eff → Option R} {q : R}
    (h : eCall tab rd objs n g args.toList k = some q) (hs : ObSat U H F w (find objs) n) :
    ∃ e, k e = some q ∧ Says P U H F w ρ (find objs) n ⟨dst, .call { callee := .value g, args := args, argTypes := tys }, ty, pos, aft, none⟩ e := by
  unfold eCall at h
  split at h
  case h_2 => cases h
  rename_i f caps hc
  split at h
  case h_2 => cases h
  rename_i ds hds
  unfold calleeD at hc
  split at hc
  case h_2 => cases hc
  rename_i f' caps' hg
  cases hc
  obtain ⟨us, h1, h2⟩ := hrd _ _ hg
  exact eCallD_ok htab (descs_append (descs_ok (w := w) (H := H) (F := F) (ρ := ρ) hrd hds) (caps_descs (F := F) (w := w) h2)) (fun fn g1 g2 g3 => run_callv g1 g2 g3 rfl h1) hs (fun _ h => h) h
end
end Go.Proofs.YtjeeligfdpociaaGreat
