/- Regions whose order is drawn: one operation, seen apart from the others. -/
import Derived.Test.YtacochphlicngaaExec
namespace Go.Proofs.Ytacochphlicngaa
open Go Go.RowKit

/-! ## What an operation comes to does not hang on what is done with it -/
section
variable {P : Program} {R : Type} {ob : Nat → Option (Nat × Th)} {n : Nat} (k : Eff → Option R)

theorem eMakeFunc_bind {rd : Operand → Option Desc} {fn : Fn} {first caps : Array Operand} : eMakeFunc rd fn first caps k = (eMakeFunc rd fn first caps some).bind k := by
  unfold eMakeFunc
  repeat' first | rfl | split
theorem eIndexA_bind (T : Tabs P) {m : Nat} {e : TypeId} {D : Desc} {i : Int} : eIndexA T m e D i k = (eIndexA T m e D i some).bind k := by
  unfold eIndexA
  repeat' first | rfl | (rw [Option.bind_assoc]; rfl) | split
theorem eIndexV_bind (T : Tabs P) {t : TypeId} {D : Desc} {i : Int} : eIndexV T ob t D i k = (eIndexV T ob t D i some).bind k := by
  unfold eIndexV
  simp only [Bool.cond_eq_ite]
  repeat' first | rfl | (rw [Option.bind_assoc]; rfl) | split
theorem eIndex_bind (T : Tabs P) {t : TypeId} {D : Desc} {i : Int} : eIndex T ob t D i k = (eIndex T ob t D i some).bind k := by
  unfold eIndex
  simp only [Bool.cond_eq_ite]
  repeat' first | rfl | exact eIndexA_bind k T | (rw [Option.bind_assoc]; rfl) | split
theorem eLoad_bind (T : Tabs P) {t : TypeId} {D : Desc} : eLoad T ob t D k = (eLoad T ob t D some).bind k := by
  unfold eLoad
  simp only [Bool.cond_eq_ite]
  repeat' first | rfl | split | (rw [Option.bind_assoc]; congr 1; funext x; repeat' first | rfl | split)
theorem eStore_bind (T : Tabs P) {t : TypeId} {D V : Desc} : eStore T ob n t D V k = (eStore T ob n t D V some).bind k := by
  unfold eStore
  simp only [Bool.cond_eq_ite]
  repeat' first | rfl | split | (rw [Option.bind_assoc]; rfl) | (rw [Option.bind_assoc]; congr 1; funext x; repeat' first | rfl | split)
theorem eLoadD_bind (T : Tabs P) {t : TypeId} {D : Desc} : eLoadD T ob n t D k = (eLoadD T ob n t D some).bind k := by
  unfold eLoadD
  simp only [Bool.cond_eq_ite]
  repeat' first | rfl | split | (rw [Option.bind_assoc]; rfl)
theorem eLoadX_bind (T : Tabs P) {t : TypeId} {D : Desc} : eLoadX T ob n t D k = (eLoadX T ob n t D some).bind k := by
  unfold eLoadX
  split
  · exact eLoadD_bind k T
  · exact eLoad_bind k T
theorem eStoreD_bind (T : Tabs P) {t : TypeId} {D V : Desc} : eStoreD T ob n t D V k = (eStoreD T ob n t D V some).bind k := by
  unfold eStoreD
  simp only [Bool.cond_eq_ite]
  repeat' first | rfl | split | (rw [Option.bind_assoc]; rfl)
theorem eStoreX_bind (T : Tabs P) {t : TypeId} {D V : Desc} : eStoreX T ob n t D V k = (eStoreX T ob n t D V some).bind k := by
  unfold eStoreX
  split
  · exact eStoreD_bind k T
  · exact eStore_bind k T
theorem eBuildD1_bind {e : TypeId} {dr : DR} {ds : List Desc} : eBuildD1 e dr ob n ds k = (eBuildD1 e dr ob n ds some).bind k := by
  unfold eBuildD1
  simp only [Bool.cond_eq_ite]
  repeat' first | rfl | split
theorem eAlloc_bind (T : Tabs P) {t : TypeId} : eAlloc T n t k = (eAlloc T n t some).bind k := by
  unfold eAlloc
  repeat' first | rfl | split
theorem eBox_bind {t : TypeId} {V : Desc} : eBox n t V k = (eBox n t V some).bind k := by
  unfold eBox
  repeat' first | rfl | split
theorem eMake_bind (T : Tabs P) {t : TypeId} {s : Bool} {a b : Int} : eMake T n t s a b k = (eMake T n t s a b some).bind k := by
  unfold eMake
  repeat' first | rfl | split | (rw [Option.bind_assoc]; rfl)
theorem eAppend_bind (T : Tabs P) {t : TypeId} {X Y : Desc} : eAppend T ob n t X Y k = (eAppend T ob n t X Y some).bind k := by
  unfold eAppend
  simp only [Bool.cond_eq_ite]
  repeat' first | rfl | split | (rw [Option.bind_assoc]; rfl)
theorem eBuildSlice_bind (T : Tabs P) {rd : Operand → Option Desc} {t : TypeId} {m : Nat} {ps : Array (Nat × Operand)} : eBuildSlice T rd ob n t m ps k = (eBuildSlice T rd ob n t m ps some).bind k := by
  unfold eBuildSlice
  simp only [Bool.cond_eq_ite]
  repeat' first | rfl | split
theorem eBuildX_bind {b : Bool} (T : Tabs P) {rd : Operand → Option Desc} {t : TypeId} {m : Nat} {ps : Array (Nat × Operand)} : eBuildX b T rd ob n t m ps k = (eBuildX b T rd ob n t m ps some).bind k := by
  cases b with
  | false => exact eBuildSlice_bind k T
  | true =>
    show eBuildD T rd ob n t m ps k = (eBuildD T rd ob n t m ps some).bind k
    unfold eBuildD
    simp only [Bool.cond_eq_ite]
    repeat' first | rfl | exact eBuildD1_bind k | split
theorem eBuild_bind (T : Tabs P) {rd : Operand → Option Desc} {t : TypeId} {ps : Array (Nat × Operand)} : eBuild T rd t ps k = (eBuild T rd t ps some).bind k := by
  unfold eBuild
  simp only [Bool.cond_eq_ite]
  repeat' first | rfl | split
theorem eSlice_bind (T : Tabs P) {rd : Operand → Option Desc} {t : TypeId} {D : Desc} {lo hi : Option Operand} : eSlice T rd ob n t D lo hi k = (eSlice T rd ob n t D lo hi some).bind k := by
  unfold eSlice
  simp only [Bool.cond_eq_ite]
  repeat' first | rfl | split | (rw [Option.bind_assoc]; rfl)
theorem eBin_bind (T : Tabs P) {o : BinOp} {t : TypeId} {lit : Bool} {X Y : Desc} : eBin T ob o t lit X Y k = (eBin T ob o t lit X Y some).bind k := by
  unfold eBin
  simp only [Bool.cond_eq_ite]
  repeat' first | rfl | split | (rw [Option.bind_assoc]; rfl)
theorem eMapUpdate_bind (T : Tabs P) {t : TypeId} {M X Y : Desc} : eMapUpdate T ob n t M X Y k = (eMapUpdate T ob n t M X Y some).bind k := by
  unfold eMapUpdate
  simp only [Bool.cond_eq_ite]
  repeat' first | rfl | split
theorem eMakeMap_bind (T : Tabs P) {t : TypeId} : eMakeMap T n t k = (eMakeMap T n t some).bind k := by
  unfold eMakeMap
  repeat' first | rfl | split
theorem eLookup_bind (T : Tabs P) {t : TypeId} {ok : Bool} {M X : Desc} : eLookup T ob t ok M X k = (eLookup T ob t ok M X some).bind k := by
  unfold eLookup
  simp only [Bool.cond_eq_ite]
  repeat' first | rfl | split
theorem eCallE_bind {sg : Sig} {bs : Bs} {objs1 : List (Nat × (Nat × Th))} {nd : List Nat} {y : tupDen sg.out.rows} : eCallE sg n bs objs1 nd y k = (eCallE sg n bs objs1 nd y some).bind k := by
  unfold eCallE
  simp only [Bool.cond_eq_ite]
  repeat' first | rfl | split
theorem eCallD_bind {objs : List (Nat × (Nat × Th))} {f : FuncId} {ds : List Desc} : {tab : List (Nat × Sig)} → eCallD objs n f ds k tab = (eCallD objs n f ds some tab).bind k
  | [] => rfl
  | (g, sg) :: tab => by
    unfold eCallD
    have ih := eCallD_bind (objs := objs) (f := f) (ds := ds) (tab := tab)
    simp only [Bool.cond_eq_ite]
    repeat' first | rfl | exact ih | split | (rw [Option.bind_assoc]; congr 1; funext y; exact eCallE_bind k)
theorem eCall_bind {tab : List (Nat × Sig)} {rd : Operand → Option Desc} {objs : List (Nat × (Nat × Th))} {g : Operand} {args : List Operand} : eCall tab rd objs n g args k = (eCall tab rd objs n g args some).bind k := by
  unfold eCall
  repeat' first | rfl | exact eCallD_bind k | split
theorem callE_bind (E : Env P) {rd : Operand → Option Desc} {objs : List (Nat × (Nat × Th))} {c : Callee} {args : Array Operand} {tys : Array TypeId} : callE E rd objs n c args tys k = (callE E rd objs n c args tys some).bind k := by
  unfold callE
  simp only [Bool.cond_eq_ite]
  repeat' first | rfl | exact eAppend_bind k _ | exact eCall_bind k | split
theorem opE_bind (E : Env P) {rd : Operand → Option Desc} {objs : List (Nat × (Nat × Th))} {dst : Option Nat} {op : Op} : opE E rd objs n dst op k = (opE E rd objs n dst op some).bind k := by
  unfold opE
  repeat' first | rfl | exact eStoreX_bind k _ | exact eMapUpdate_bind k _ | exact eMakeMap_bind k _ | exact eLookup_bind k _ | exact callE_bind k _ | exact eAlloc_bind k _ | exact eBox_bind k | exact eBuild_bind k _ | exact eBuildX_bind k _ | exact eLoadX_bind k _ | exact eBin_bind k _ | exact eMake_bind k _ | exact eSlice_bind k _ | exact eIndex_bind k _ | exact eIndexV_bind k _ | exact eMakeFunc_bind k | split
end

/-! ## One operation, seen apart -/
def keepL {α : Type} (ns : List Nat) : List (Nat × α) → List (Nat × α)
  | [] => []
  | (m, a) :: l => bif memB m ns then (m, a) :: keepL ns l else keepL ns l
theorem find_keep {α : Type} {ns : List Nat} {l : List (Nat × α)} {n : Nat} {a : α} : find (keepL ns l) n = some a ↔ n ∈ ns ∧ find l n = some a := by
  induction l with
  | nil => simp [keepL, find]
  | cons p l ih =>
    obtain ⟨m, b⟩ := p
    unfold keepL
    cases hm : memB m ns with
    | true =>
      have hin := memB_iff.1 hm
      rw [cond_true, find_cons, find_cons]
      by_cases h : m = n
      · subst h; simp [hin]
      · simp only [if_neg h]; exact ih
    | false =>
      have hin : m ∉ ns := fun e => by rw [memB_iff.2 e] at hm; cases hm
      rw [cond_false, ih, find_cons]
      constructor
      · rintro ⟨h1, h2⟩
        have hne : m ≠ n := fun e => hin (e ▸ h1)
        exact ⟨h1, by rw [if_neg hne]; exact h2⟩
      · rintro ⟨h1, h2⟩
        have hne : m ≠ n := fun e => hin (e ▸ h1)
        rw [if_neg hne] at h2
        exact ⟨h1, h2⟩

def tmpsOf : List Operand → List Nat
  | [] => []
  | .tmp t :: l => t :: tmpsOf l
  | _ :: l => tmpsOf l
def mentT : List (Bool × Tree) → List Nat
  | [] => []
  | p :: l => p.2.owns ++ mentT l
def ment : Desc → List Nat
  | .val _ t => t.owns
  | .ptr o _ _ => [o]
  | .elem o .. => [o]
  | .dlm o .. => [o]
  | .tup ds => mentT ds
  | .fn _ caps => caps.map (·.1)
  | _ => []
def mentS (slots : List (Nat × Desc)) : List Nat → List Nat
  | [] => []
  | t :: l => (match find slots t with
    | some d => ment d
    | none => []) ++ mentS slots l
def within (objs : List (Nat × (Nat × Th))) : List Nat → List Nat
  | [] => []
  | o :: l => (match find objs o with
    | some (_, .box _ t) => t.owns
    | _ => []) ++ within objs l
def touched (slots : List (Nat × Desc)) (objs : List (Nat × (Nat × Th))) (ts : List Nat) : List Nat :=
  (fun l => l ++ within objs l) (mentS slots ts)

/-- An operation with what is frozen ahead of it. -/
def fullE (objs1 : List (Nat × (Nat × Th))) (nd : List Nat) (e : Eff) : Eff :=
  { dst := e.dst, eat := nd ++ e.eat, make := e.make ++ del e.eat (frzOf objs1 nd) }

section
variable {U : Nat → Prop} {H : Hist} {F : Nat → Prop} {w : World} {n : Nat}

theorem full_post {obj objs1 : List (Nat × (Nat × Th))} {nd : List Nat} {e : Eff} {v : Value} {w' : World} {F1 : Nat → Prop} (hfz : frzAll obj nd = some objs1) (hs1 : ObSat U H F1 w (find objs1) n) (hF1 : ∀ b, F b → F1 b) (hF2 : ∀ b, F1 b → F b ∨ eaten H (find obj) nd b)
    (h : PostE H F1 w (find objs1) n e v w') : PostE H F w (find obj) n (fullE objs1 nd e) v w' := by
  obtain ⟨H', F', hp⟩ := h
  have heat : ∀ k, eaten H (find objs1) e.eat k → eaten H (find obj) (nd ++ e.eat) k := by
    rintro k ⟨o, ho, s, t, u, h1, h2, h3⟩
    rcases frzAll_find hfz o s t h1 with h4 | h4
    · exact ⟨o, by simp [ho], s, t, u, h4, h2, h3⟩
    · exact (fp_frozen h4 h3).elim
  have part : ∀ o s t, find (e.make ++ del e.eat (frzOf objs1 nd)) o = some (s, t) → find e.make o = some (s, t) ∨ (o ∉ e.eat ∧ o ∈ nd ∧ find objs1 o = some (s, t) ∧ frozenB t = true) := by
    intro o s t ho
    rw [find_append] at ho
    cases hm : find e.make o with
    | some x => rw [hm] at ho; exact .inl ho
    | none =>
      rw [hm, Option.none_or] at ho
      obtain ⟨h1, h2⟩ := find_del.1 ho
      obtain ⟨h3, h4, h5⟩ := frzOf_find h2
      exact .inr ⟨h1, h3, h4, h5⟩
  refine ⟨H', F', ⟨hp.evo.hist, ⟨hp.evo.ext.os, hp.evo.ext.tape, hp.evo.ext.output, hp.evo.ext.size, fun k hk hn => hp.evo.ext.block k hk fun hh => hn (heat k hh)⟩, fun b hb => hp.evo.le b (hF1 b hb), fun b hb => ?_, hp.evo.lt⟩, hp.fresh, hp.dst, ⟨fun o s t ho => ?_, fun o o' s s' t t' v v' hne ho ho' hv hv' k hk hk' => ?_⟩, fun o ho => ?_⟩
  · rcases hp.evo.grow b hb with h1 | h1 | h1
    · rcases hF2 b h1 with h2 | ⟨o, ho, rest⟩
      · exact .inl h2
      · exact .inr (.inr ⟨o, by simp [fullE, ho], rest⟩)
    · exact .inr (.inl h1)
    · exact .inr (.inr (heat b h1))
  · rcases part o s t ho with h1 | ⟨h1, h2, h3, h4⟩
    · obtain ⟨u, a1, a2, a3, a4, a5⟩ := hp.made.obj o s t h1
      exact ⟨u, a1, a2, a3, a4, fun k hk => ⟨(a5 k hk).1, (a5 k hk).2.1, (a5 k hk).2.2.imp id (heat k)⟩⟩
    · obtain ⟨u, hu, hin⟩ := hs1.obj _ _ _ h3
      have := hin.evo hs1 hp.evo h3 h1 hu
      exact ⟨u, hp.evo.hist.val _ _ hu, this.one, this.con, this.ok, fun k hk => (fp_frozen h4 hk).elim⟩
  · rcases part o s t ho with h1 | ⟨_, _, _, h4⟩
    · rcases part o' s' t' ho' with h2 | ⟨_, _, _, h4'⟩
      · exact hp.made.apart o o' s s' t t' v v' hne h1 h2 hv hv' k hk hk'
      · exact fp_frozen h4' hk'
    · exact fp_frozen h4 hk
  · obtain ⟨x, hx⟩ := Option.isSome_iff_exists.1 ho
    rcases part o x.1 x.2 hx with h1 | ⟨_, h2, _⟩
    · exact (hp.ids o (by rw [h1]; rfl)).imp (fun h => by simp [fullE, h]) id
    · exact .inl (by simp [fullE, h2])
end

structure Ent where
  dst : Option Nat
  ts : List Nat       -- the slots that are looked at
  os : List Nat       -- the objects that are looked at
  e : Eff

noncomputable def dstep {R : Type} {P : Program} (E : Env P) (dst : Option Nat) (op : Op) (gs : List Nat) (st : State) (k : Eff → Ent → Option R) : Option R :=
  match frzAll (keepL (touched st.slots st.objs (tmpsOf op.operands.toList)) st.objs) (opNeeds (rdo (keepL (tmpsOf op.operands.toList) st.slots)) op) with
  | some objs1 => bif fnB dst op then opE E (rdo (keepL (tmpsOf op.operands.toList) st.slots)) objs1 st.nxt dst op (fun e =>
      (fun e' => k e' { dst := dst, ts := tmpsOf op.operands.toList ++ gs, os := touched st.slots st.objs (tmpsOf op.operands.toList), e := e' }) (fullE objs1 (opNeeds (rdo (keepL (tmpsOf op.operands.toList) st.slots)) op) e)) else none
  | none => none

/-- What an entry says of its operation, wherever it is carried out. -/
structure EntOK (P : Program) (U : Nat → Prop) (o : Oper) (sl : Nat → Option Desc) (ob : Nat → Option (Nat × Th)) (n : Nat) (ent : Ent) : Prop where
  dst : ent.dst = o.dst
  run : ∃ (slR : Nat → Option Desc) (obR : Nat → Option (Nat × Th)), (∀ t d, slR t = some d → t ∈ ent.ts ∧ sl t = some d) ∧ (∀ q x, obR q = some x → q ∈ ent.os ∧ ob q = some x) ∧
    ∀ (H : Hist) (F : Nat → Prop) (w : World) (ρ : Nat → Value), (∀ t d, slR t = some d → DescOK H F w d (ρ t)) → ObSat U H F w obR n → RunsTo P ρ ⟨o.dst, o.op, o.type, o.pos, o.after, none⟩ w (PostE H F w obR n ent.e)

theorem dstep_ok {P : Program} {E : Env P} {U : Nat → Prop} {R : Type} {o : Oper} {gs : List Nat} {st : State} {k : Eff → Ent → Option R} {q : R} (h : dstep E o.dst o.op gs st k = some q) :
    ∃ e ent, k e ent = some q ∧ ent.e = e ∧ (∀ g ∈ gs, g ∈ ent.ts) ∧ EntOK P U o (find st.slots) (find st.objs) st.nxt ent := by
  unfold dstep at h
  split at h
  case h_2 => cases h
  rename_i objs1 hfz
  obtain ⟨hfn, h'⟩ := bif_eq h
  clear h
  rw [opE_bind] at h'
  obtain ⟨e, he, hk⟩ := bind_some h'
  refine ⟨_, _, hk, rfl, fun g hg => by simp [hg], rfl, find (keepL (tmpsOf o.op.operands.toList) st.slots), find (keepL (touched st.slots st.objs (tmpsOf o.op.operands.toList)) st.objs), fun t d ht => ?_, fun q x hx => ?_, fun H F w ρ hsl hob => ?_⟩
  · obtain ⟨h1, h2⟩ := find_keep.1 ht
    exact ⟨by simp [h1], h2⟩
  · obtain ⟨h1, h2⟩ := find_keep.1 hx
    exact ⟨h1, h2⟩
  · obtain ⟨F1, hs1, hF1, hF2⟩ := frzAll_ok hfz hob
    have hst : Step F w F1 w := fun b hb => ⟨hF1 b hb, rfl⟩
    obtain ⟨e', he', hs⟩ := opE_ok (ρ := ρ) (ty := o.type) (pos := o.pos) (aft := o.after) E (fun x d hx => rdo_ok hs1.gl (fun t d ht => (hsl t d ht).keep (Hist.le.refl H) hst) x d hx) (fun hn c hc => by rw [hn, hc] at hfn; exact hfn) he hs1
    obtain rfl := Option.some.inj he'
    exact hs.mono fun v w' hp => full_post hfz hs1 hF1 hF2 hp
end Go.Proofs.Ytacochphlicngaa
