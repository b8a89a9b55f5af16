/- Regions whose order is drawn: one operation, seen apart from the others. -/
/- Regions whose order is drawn: one walk serves every order. -/
import Derived.Test.YtjeeligfdpociaaGreatExec
namespace Go.Proofs.YtjeeligfdpociaaGreat
open Go Go.RowKit

/-! ## What an operation comes to does not hang on what is done with it -/
section
variable {P : Program} {R : Type} {ob : Nat → Option (Nat × Th)} {n : Nat} (k : Eff → Option R)

theorem eMakeFunc_bind {rd : Operand → Option Desc} {fn : Fn} {first caps : Array Operand} : eMakeFunc rd fn first caps k = (eMakeFunc rd fn first caps some).bind k := by
  unfold eMakeFunc
  repeat' first | rfl | split
theorem eIndexA_bind (T : Tabs P) {m : Nat} {e : TypeId} {D : Desc} {i : Int} : eIndexA T m e D i k = (eIndexA T m e D i some).bind k := by
  unfold eIndexA
  simp only [Bool.cond_eq_ite]
  repeat' first | rfl | (rw [Option.bind_assoc]; rfl) | split
theorem eIndexV_bind (T : Tabs P) {t : TypeId} {D : Desc} {i : Int} : eIndexV T ob t D i k = (eIndexV T ob t D i some).bind k := by
  unfold eIndexV
  simp only [Bool.cond_eq_ite]
  repeat' first | rfl | (rw [Option.bind_assoc]; rfl) | split
theorem eIndex_bind (T : Tabs P) {t : TypeId} {D : Desc} {i : Int} : eIndex T ob t D i k = (eIndex T ob t D i some).bind k := by
  unfold eIndex
  simp only [Bool.cond_eq_ite]
  repeat' first | rfl | exact eIndexA_bind k T | (rw [Option.bind_assoc]; rfl) | split
theorem eLoad_bind (T : Tabs P) {t : TypeId} {D : Desc} : eLoad T ob t D k = (eLoad T ob t D some).bind k := by
  unfold eLoad
  simp only [Bool.cond_eq_ite]
  repeat' first | rfl | split | (rw [Option.bind_assoc]; congr 1; funext x; repeat' first | rfl | split)
theorem eStore_bind (T : Tabs P) {t : TypeId} {D V : Desc} : eStore T ob n t D V k = (eStore T ob n t D V some).bind k := by
  unfold eStore
  simp only [Bool.cond_eq_ite]
  repeat' first | rfl | split | (rw [Option.bind_assoc]; rfl) | (rw [Option.bind_assoc]; congr 1; funext x; repeat' first | rfl | split)
theorem eLoadD_bind (T : Tabs P) {t : TypeId} {D : Desc} : eLoadD T ob n t D k = (eLoadD T ob n t D some).bind k := by
  unfold eLoadD
  simp only [Bool.cond_eq_ite]
  repeat' first | rfl | split | (rw [Option.bind_assoc]; rfl)
theorem eLoadX_bind (T : Tabs P) {t : TypeId} {D : Desc} : eLoadX T ob n t D k = (eLoadX T ob n t D some).bind k := by
  unfold eLoadX
  split
  · exact eLoadD_bind k T
  · exact eLoad_bind k T
theorem eStoreD_bind (T : Tabs P) {t : TypeId} {D V : Desc} : eStoreD T ob n t D V k = (eStoreD T ob n t D V some).bind k := by
  unfold eStoreD
  simp only [Bool.cond_eq_ite]
  repeat' first | rfl | split | (rw [Option.bind_assoc]; rfl)
theorem eStoreX_bind (T : Tabs P) {t : TypeId} {D V : Desc} : eStoreX T ob n t D V k = (eStoreX T ob n t D V some).bind k := by
  unfold eStoreX
  split
  · exact eStoreD_bind k T
  · exact eStore_bind k T
theorem eBuildD1_bind {e : TypeId} {dr : DR} {ds : List Desc} : eBuildD1 e dr ob n ds k = (eBuildD1 e dr ob n ds some).bind k := by
  unfold eBuildD1
  simp only [Bool.cond_eq_ite]
  repeat' first | rfl | split
theorem eAlloc_bind (T : Tabs P) {t : TypeId} : eAlloc T n t k = (eAlloc T n t some).bind k := by
  unfold eAlloc
  repeat' first | rfl | split
theorem eBox_bind {t : TypeId} {V : Desc} : eBox n t V k = (eBox n t V some).bind k := by
  unfold eBox
  repeat' first | rfl | split
theorem eMake_bind (T : Tabs P) {t : TypeId} {s : Bool} {a b : Int} : eMake T n t s a b k = (eMake T n t s a b some).bind k := by
  unfold eMake
  repeat' first | rfl | split | (rw [Option.bind_assoc]; rfl)
theorem eMakeX_bind (T : Tabs P) {b : Bool} {t : TypeId} {s : Bool} {x y : Int} : eMakeX b T n t s x y k = (eMakeX b T n t s x y some).bind k := by
  unfold eMakeX
  split
  · unfold eMakeD
    repeat' first | rfl | exact eMake_bind k T | split | (rw [Option.bind_assoc]; rfl)
  · exact eMake_bind k T
theorem eAppend_bind (T : Tabs P) {t : TypeId} {X Y : Desc} : eAppend T ob n t X Y k = (eAppend T ob n t X Y some).bind k := by
  unfold eAppend
  simp only [Bool.cond_eq_ite]
  repeat' first | rfl | split | (rw [Option.bind_assoc]; rfl)
theorem eBuildSlice_bind (T : Tabs P) {rd : Operand → Option Desc} {t : TypeId} {m : Nat} {ps : Array (Nat × Operand)} : eBuildSlice T rd ob n t m ps k = (eBuildSlice T rd ob n t m ps some).bind k := by
  unfold eBuildSlice
  simp only [Bool.cond_eq_ite]
  repeat' first | rfl | split
theorem eBuildX_bind {b : Bool} (T : Tabs P) {rd : Operand → Option Desc} {t : TypeId} {m : Nat} {ps : Array (Nat × Operand)} : eBuildX b T rd ob n t m ps k = (eBuildX b T rd ob n t m ps some).bind k := by
  cases b with
  | false => exact eBuildSlice_bind k T
  | true =>
    show eBuildD T rd ob n t m ps k = (eBuildD T rd ob n t m ps some).bind k
    unfold eBuildD
    simp only [Bool.cond_eq_ite]
    repeat' first | rfl | exact eBuildD1_bind k | split
theorem eBuild_bind (T : Tabs P) {rd : Operand → Option Desc} {t : TypeId} {ps : Array (Nat × Operand)} : eBuild T rd t ps k = (eBuild T rd t ps some).bind k := by
  unfold eBuild
  simp only [Bool.cond_eq_ite]
  repeat' first | rfl | split
theorem eSlice_bind (dr : Bool) (T : Tabs P) {rd : Operand → Option Desc} {t : TypeId} {D : Desc} {lo hi : Option Operand} : eSlice dr T rd ob n t D lo hi k = (eSlice dr T rd ob n t D lo hi some).bind k := by
  unfold eSlice
  simp only [Bool.cond_eq_ite]
  repeat' first | rfl | split | (rw [Option.bind_assoc]; rfl)
theorem eBin_bind (T : Tabs P) {o : BinOp} {t : TypeId} {lit : Bool} {X Y : Desc} : eBin T ob o t lit X Y k = (eBin T ob o t lit X Y some).bind k := by
  unfold eBin
  simp only [Bool.cond_eq_ite]
  repeat' first | rfl | split | (rw [Option.bind_assoc]; rfl)
theorem eMapUpdate_bind (T : Tabs P) {t : TypeId} {M X Y : Desc} : eMapUpdate T ob n t M X Y k = (eMapUpdate T ob n t M X Y some).bind k := by
  unfold eMapUpdate
  simp only [Bool.cond_eq_ite]
  repeat' first | rfl | split
theorem eMakeMap_bind (T : Tabs P) {t : TypeId} : eMakeMap T n t k = (eMakeMap T n t some).bind k := by
  unfold eMakeMap
  repeat' first | rfl | split
theorem eLookup_bind (T : Tabs P) {t : TypeId} {ok : Bool} {M X : Desc} : eLookup T ob t ok M X k = (eLookup T ob t ok M X some).bind k := by
  unfold eLookup
  simp only [Bool.cond_eq_ite]
  repeat' first | rfl | split
theorem eAppendX_bind (T : Tabs P) {t : TypeId} {X Y : Desc} : eAppendX T ob n t X Y k = (eAppendX T ob n t X Y some).bind k := by
  unfold eAppendX
  cases deepB ob Y with
  | false => exact eAppend_bind k T
  | true =>
    simp only [cond_true]
    unfold eAppendD
    simp only [Bool.cond_eq_ite]
    repeat' first | rfl | split | (rw [Option.bind_assoc]; rfl)
theorem eMapUpdateX_bind (T : Tabs P) {t : TypeId} {M X Y : Desc} : eMapUpdateX T ob n t M X Y k = (eMapUpdateX T ob n t M X Y some).bind k := by
  unfold eMapUpdateX
  simp only [Bool.cond_eq_ite]
  repeat' first | rfl | exact eMapUpdate_bind k _ | split
theorem eMakeMapX_bind (b : Bool) (T : Tabs P) {t : TypeId} : eMakeMapX b T n t k = (eMakeMapX b T n t some).bind k := by
  unfold eMakeMapX
  simp only [Bool.cond_eq_ite]
  repeat' first | rfl | exact eMakeMap_bind k _ | split
theorem eLookupX_bind (T : Tabs P) {t : TypeId} {ok : Bool} {M X : Desc} : eLookupX T ob n t ok M X k = (eLookupX T ob n t ok M X some).bind k := by
  unfold eLookupX
  simp only [Bool.cond_eq_ite]
  repeat' first | rfl | exact eLookup_bind k _ | split
theorem eCallE_bind {sg : Sig} {bs : Bs} {objs1 : List (Nat × (Nat × Th))} {nd : List Nat} {y : tupDen sg.out.rows} : eCallE sg n bs objs1 nd y k = (eCallE sg n bs objs1 nd y some).bind k := by
  unfold eCallE
  simp only [Bool.cond_eq_ite]
  repeat' first | rfl | split
theorem eCallD_bind {objs : List (Nat × (Nat × Th))} {f : FuncId} {ds : List Desc} : {tab : List (Nat × Sig)} → eCallD objs n f ds k tab = (eCallD objs n f ds some tab).bind k
  | [] => rfl
  | (g, sg) :: tab => by
    unfold eCallD
    have ih := eCallD_bind (objs := objs) (f := f) (ds := ds) (tab := tab)
    simp only [Bool.cond_eq_ite]
    repeat' first | rfl | exact ih | split | (rw [Option.bind_assoc]; congr 1; funext y; exact eCallE_bind k)
theorem eCall_bind {tab : List (Nat × Sig)} {rd : Operand → Option Desc} {objs : List (Nat × (Nat × Th))} {g : Operand} {args : List Operand} : eCall tab rd objs n g args k = (eCall tab rd objs n g args some).bind k := by
  unfold eCall
  repeat' first | rfl | exact eCallD_bind k | split
theorem eInvoke_bind (T : Tabs P) {tab : List (Nat × Sig)} {rd : Operand → Option Desc} {objs : List (Nat × (Nat × Th))} {g : Operand} {name : String} {args : List Operand} : eInvoke T tab rd objs n g name args k = (eInvoke T tab rd objs n g name args some).bind k := by
  unfold eInvoke
  repeat' first | rfl | exact eCallD_bind k | split
theorem eIfc_bind (T : Tabs P) {t : TypeId} {D : Desc} : eIfc T t D k = (eIfc T t D some).bind k := by
  unfold eIfc
  simp only [Bool.cond_eq_ite]
  repeat' first | rfl | split
theorem eAssert_bind (T : Tabs P) {t : TypeId} {ok : Bool} {D : Desc} : eAssert T t ok D k = (eAssert T t ok D some).bind k := by
  unfold eAssert
  simp only [Bool.cond_eq_ite]
  repeat' first | rfl | split
theorem callE_bind (E : Env P) {rd : Operand → Option Desc} {objs : List (Nat × (Nat × Th))} {c : Callee} {args : Array Operand} {tys : Array TypeId} : callE E rd objs n c args tys k = (callE E rd objs n c args tys some).bind k := by
  unfold callE
  simp only [Bool.cond_eq_ite]
  repeat' first | rfl | exact eAppendX_bind k _ | exact eCall_bind k | exact eInvoke_bind k _ | split
theorem opE_bind (E : Env P) {rd : Operand → Option Desc} {objs : List (Nat × (Nat × Th))} {dst : Option Nat} {op : Op} : opE E rd objs n dst op k = (opE E rd objs n dst op some).bind k := by
  unfold opE
  repeat' first | rfl | exact eStoreX_bind k _ | exact eMapUpdateX_bind k _ | exact eMakeMapX_bind k _ _ | exact eLookupX_bind k _ | exact eIfc_bind k _ | exact eAssert_bind k _ | exact callE_bind k _ | exact eAlloc_bind k _ | exact eBox_bind k | exact eBuild_bind k _ | exact eBuildX_bind k _ | exact eLoadX_bind k _ | exact eBin_bind k _ | exact eMakeX_bind k _ | exact eSlice_bind k _ _ | exact eIndex_bind k _ | exact eIndexV_bind k _ | exact eMakeFunc_bind k | split
end

/-! ## One operation, seen apart -/
def keepL {α : Type} (ns : List Nat) : List (Nat × α) → List (Nat × α)
  | [] => []
  | (m, a) :: l => bif memB m ns then (m, a) :: keepL ns l else keepL ns l
theorem find_keep {α : Type} {ns : List Nat} {l : List (Nat × α)} {n : Nat} {a : α} : find (keepL ns l) n = some a ↔ n ∈ ns ∧ find l n = some a := by
  induction l with
  | nil => simp [keepL, find]
  | cons p l ih =>
    obtain ⟨m, b⟩ := p
    unfold keepL
    cases hm : memB m ns with
    | true =>
      have hin := memB_iff.1 hm
      rw [cond_true, find_cons, find_cons]
      by_cases h : m = n
      · subst h; simp [hin]
      · simp only [if_neg h]; exact ih
    | false =>
      have hin : m ∉ ns := fun e => by rw [memB_iff.2 e] at hm; cases hm
      rw [cond_false, ih, find_cons]
      constructor
      · rintro ⟨h1, h2⟩
        have hne : m ≠ n := fun e => hin (e ▸ h1)
        exact ⟨h1, by rw [if_neg hne]; exact h2⟩
      · rintro ⟨h1, h2⟩
        have hne : m ≠ n := fun e => hin (e ▸ h1)
        rw [if_neg hne] at h2
        exact ⟨h1, h2⟩

def tmpsOf : List Operand → List Nat
  | [] => []
  | .tmp t :: l => t :: tmpsOf l
  | _ :: l => tmpsOf l
def mentT : List (Bool × Tree) → List Nat
  | [] => []
  | p :: l => p.2.owns ++ mentT l
def ment : Desc → List Nat
  | .val _ t => t.owns
  | .ptr o _ _ => [o]
  | .elem o .. => [o]
  | .dlm o .. => [o]
  | .tup ds => mentT ds
  | .fn _ caps => caps.map (·.1)
  | .ifc _ d => ment d
  | _ => []
def mentS (slots : List (Nat × Desc)) : List Nat → List Nat
  | [] => []
  | t :: l => (match find slots t with
    | some d => ment d
    | none => []) ++ mentS slots l
def within (objs : List (Nat × (Nat × Th))) : List Nat → List Nat
  | [] => []
  | o :: l => (match find objs o with
    | some (_, .box _ t) => t.owns
    | _ => []) ++ within objs l
def touched (slots : List (Nat × Desc)) (objs : List (Nat × (Nat × Th))) (ts : List Nat) : List Nat :=
  (fun l => l ++ within objs l) (mentS slots ts)

/-- An operation with what is frozen ahead of it. -/
def fullE (objs1 : List (Nat × (Nat × Th))) (nd : List Nat) (e : Eff) : Eff :=
  { dst := e.dst, eat := nd ++ e.eat, make := e.make ++ del e.eat (frzOf objs1 nd) }

section
variable {U : Nat → Prop} {H : Hist} {F : Nat → Prop} {w : World} {n : Nat}

theorem full_post {obj objs1 : List (Nat × (Nat × Th))} {nd : List Nat} {e : Eff} {v : Value} {w' : World} {F1 : Nat → Prop} (hfz : frzAll obj nd = some objs1) (hs1 : ObSat U H F1 w (find objs1) n) (hF1 : ∀ b, F b → F1 b) (hF2 : ∀ b, F1 b → F b ∨ eaten H (find obj) nd b)
    (h : PostE H F1 w (find objs1) n e v w') : PostE H F w (find obj) n (fullE objs1 nd e) v w' := by
  obtain ⟨H', F', hp⟩ := h
  have heat : ∀ k, eaten H (find objs1) e.eat k → eaten H (find obj) (nd ++ e.eat) k := by
    rintro k ⟨o, ho, s, t, u, h1, h2, h3⟩
    rcases frzAll_find hfz o s t h1 with h4 | h4
    · exact ⟨o, by simp [ho], s, t, u, h4, h2, h3⟩
    · exact (fp_frozen h4 h3).elim
  have part : ∀ o s t, find (e.make ++ del e.eat (frzOf objs1 nd)) o = some (s, t) → find e.make o = some (s, t) ∨ (o ∉ e.eat ∧ o ∈ nd ∧ find objs1 o = some (s, t) ∧ frozenB t = true) := by
    intro o s t ho
    rw [find_append] at ho
    cases hm : find e.make o with
    | some x => rw [hm] at ho; exact .inl ho
    | none =>
      rw [hm, Option.none_or] at ho
      obtain ⟨h1, h2⟩ := find_del.1 ho
      obtain ⟨h3, h4, h5⟩ := frzOf_find h2
      exact .inr ⟨h1, h3, h4, h5⟩
  refine ⟨H', F', ⟨hp.evo.hist, ⟨hp.evo.ext.os, hp.evo.ext.tape, hp.evo.ext.output, hp.evo.ext.size, fun k hk hn => hp.evo.ext.block k hk fun hh => hn (heat k hh)⟩, fun b hb => hp.evo.le b (hF1 b hb), fun b hb => ?_, hp.evo.lt⟩, hp.fresh, hp.dst, ⟨fun o s t ho => ?_, fun o o' s s' t t' v v' hne ho ho' hv hv' k hk hk' => ?_⟩, fun o ho => ?_⟩
  · rcases hp.evo.grow b hb with h1 | h1 | h1
    · rcases hF2 b h1 with h2 | ⟨o, ho, rest⟩
      · exact .inl h2
      · exact .inr (.inr ⟨o, by simp [fullE, ho], rest⟩)
    · exact .inr (.inl h1)
    · exact .inr (.inr (heat b h1))
  · rcases part o s t ho with h1 | ⟨h1, h2, h3, h4⟩
    · obtain ⟨u, a1, a2, a3, a4, a5⟩ := hp.made.obj o s t h1
      exact ⟨u, a1, a2, a3, a4, fun k hk => ⟨(a5 k hk).1, (a5 k hk).2.1, (a5 k hk).2.2.imp id (heat k)⟩⟩
    · obtain ⟨u, hu, hin⟩ := hs1.obj _ _ _ h3
      have := hin.evo hs1 hp.evo h3 h1 hu
      exact ⟨u, hp.evo.hist.val _ _ hu, this.one, this.con, this.ok, fun k hk => (fp_frozen h4 hk).elim⟩
  · rcases part o s t ho with h1 | ⟨_, _, _, h4⟩
    · rcases part o' s' t' ho' with h2 | ⟨_, _, _, h4'⟩
      · exact hp.made.apart o o' s s' t t' v v' hne h1 h2 hv hv' k hk hk'
      · exact fp_frozen h4' hk'
    · exact fp_frozen h4 hk
  · obtain ⟨x, hx⟩ := Option.isSome_iff_exists.1 ho
    rcases part o x.1 x.2 hx with h1 | ⟨_, h2, _⟩
    · exact (hp.ids o (by rw [h1]; rfl)).imp (fun h => by simp [fullE, h]) id
    · exact .inl (by simp [fullE, h2])
end

/-- Two states of an object that part at most in what was taken out of it. -/
def SoftEq (x y : Nat × Th) : Prop := x = y ∨ ∃ T d l h h', x.2 = .deep T d l h ∧ y.2 = .deep T d l h'
theorem SoftEq.symm {x y : Nat × Th} (h : SoftEq x y) : SoftEq y x := by
  rcases h with rfl | ⟨T, d, l, h, h', h1, h2⟩
  · exact .inl rfl
  · exact .inr ⟨T, d, l, h', h, h2, h1⟩
theorem SoftEq.trans {x y z : Nat × Th} (h : SoftEq x y) (h' : SoftEq y z) : SoftEq x z := by
  rcases h with rfl | ⟨T, d, l, a, b, h1, h2⟩
  · exact h'
  · rcases h' with rfl | ⟨T', d', l', a', b', h3, h4⟩
    · exact .inr ⟨T, d, l, a, b, h1, h2⟩
    · rw [h2] at h3
      cases h3
      exact .inr ⟨T, d, l, a, b', h1, h4⟩

structure Ent where
  dst : Option Nat
  ts : List Nat       -- the slots that are looked at
  os : List Nat       -- the objects that are looked at
  e : Eff
  ls : List Nat := []     -- the objects whose length alone is looked at
  soft : List Nat := []   -- the objects out of which something was taken, no more

def keysM : List (Nat × (Nat × Th)) → List Nat
  | [] => []
  | (o, _) :: l => o :: keysM l
def Ent.mut (x : Ent) : List Nat := x.e.eat ++ keysM x.e.make

def lightB : Op → Bool
  | .call c => match c.callee with
    | .builtin .len => true
    | _ => false
  | _ => false
def softO (rd : Operand → Option Desc) : Op → List Nat
  | .load _ x => match rd x with
    | some (.dlm o _ _ _ _) => [o]
    | _ => []
  | _ => []

/-- The objects that an operation looks at: a value that is only handed on needs none. -/
def touchedO (st : State) (op : Op) : List Nat :=
  match op with
  | .move _ => []
  | .assign _ => []
  | _ => touched st.slots st.objs (tmpsOf op.operands.toList)

noncomputable def dstep {R : Type} {P : Program} (E : Env P) (dst : Option Nat) (op : Op) (gs : List Nat) (st : State) (k : Eff → Ent → Option R) : Option R :=
  match frzAll (keepL (touchedO st op) st.objs) (needsE E (rdo (keepL (tmpsOf op.operands.toList) st.slots)) (keepL (touchedO st op) st.objs) op) with
  | some objs1 => bif fnB dst op then opE E (rdo (keepL (tmpsOf op.operands.toList) st.slots)) objs1 st.nxt dst op (fun e =>
      (fun e' => k e' { dst := dst, ts := tmpsOf op.operands.toList ++ gs, os := bif lightB op then [] else touchedO st op, e := e', ls := bif lightB op then touchedO st op else [], soft := softO (rdo (keepL (tmpsOf op.operands.toList) st.slots)) op }) (fullE objs1 (needsE E (rdo (keepL (tmpsOf op.operands.toList) st.slots)) (keepL (touchedO st op) st.objs) op) e)) else none
  | none => none

/-- What an entry says of its operation, wherever it is carried out. -/
structure EntOK (P : Program) (U : Nat → Prop) (o : Oper) (sl : Nat → Option Desc) (ob : Nat → Option (Nat × Th)) (n : Nat) (ent : Ent) : Prop where
  dst : ent.dst = o.dst
  run : ∃ (slR : Nat → Option Desc) (obR : Nat → Option (Nat × Th)), (∀ t d, slR t = some d → t ∈ ent.ts ∧ sl t = some d) ∧ (∀ q x, obR q = some x → (q ∈ ent.os ∨ q ∈ ent.ls) ∧ ob q = some x) ∧
    ∀ (H : Hist) (F : Nat → Prop) (w : World) (ρ : Nat → Value) (obR' : Nat → Option (Nat × Th)), (∀ q x, obR q = some x → ∃ x', obR' q = some x' ∧ SoftEq x x' ∧ (q ∈ ent.os → x' = x)) → (∀ t d, slR t = some d → DescOK H F w d (ρ t)) → ObSat U H F w obR' n →
      ∃ ob2 : Nat → Option (Nat × Th), (∀ q x, ob2 q = some x → obR' q = some x) ∧ RunsTo P ρ ⟨o.dst, o.op, o.type, o.pos, o.after, none⟩ w (PostE H F w ob2 n ent.e)
  soft : ∀ q ∈ ent.soft, q ∈ ent.mut → ∃ x y, ob q = some x ∧ find ent.e.make q = some y ∧ SoftEq x y

theorem asSl_soft {ob ob' : Nat → Option (Nat × Th)} {D : Desc} {k : SlK} (hso : ∀ q x, ob q = some x → ∃ x', ob' q = some x' ∧ SoftEq x x') (h : asSl ob D = some k) : ∃ k', asSl ob' D = some k' ∧ slLen k' = slLen k := by
  unfold asSl at h
  split at h
  · cases h; exact ⟨_, rfl, rfl⟩
  · cases h; exact ⟨_, rfl, rfl⟩
  · rename_i o
    cases ho : ob o with
    | none => rw [ho] at h; cases h
    | some x =>
      obtain ⟨s, t⟩ := x
      obtain ⟨⟨s', t'⟩, h1, h2⟩ := hso o _ ho
      rw [ho] at h
      rcases h2 with e | ⟨T, d, l, a, b, e1, e2⟩
      · cases e
        exact ⟨k, by show (match ob' o with | some (s, .own T r l) => _ | some (_, .frz _ r l) => _ | some (_, .fdeep _ d l) => _ | some (s, .deep T d l h) => _ | _ => _) = _; rw [h1]; exact h, rfl⟩
      · simp only at e1 e2
        subst e1 e2
        cases h
        exact ⟨.deep o s' T d l b, by show (match ob' o with | some (s, .own T r l) => _ | some (_, .frz _ r l) => _ | some (_, .fdeep _ d l) => _ | some (s, .deep T d l h) => _ | _ => _) = _; rw [h1], rfl⟩
  · rename_i o s r m
    have hk : slLen k = (m.length : Int) := by
      split at h
      · rename_i s' _ _ _ _
        cases hb : Nat.beq s' s <;> rw [hb] at h <;> cases h <;> rfl
      · cases h; rfl
    rw [hk]
    show ∃ k', (match ob' o with | some (s', .frz ..) => bif Nat.beq s' s then some (SlK.read r m) else some (.view o s r m) | _ => some (.view o s r m)) = some k' ∧ slLen k' = _
    split
    · rename_i s' _ _ _ _
      cases hb : Nat.beq s' s with
      | true => exact ⟨SlK.read r m, rfl, rfl⟩
      | false => exact ⟨SlK.view o s r m, rfl, rfl⟩
    · exact ⟨SlK.view o s r m, rfl, rfl⟩
  · cases h
theorem eLen_soft {P : Program} (T : Tabs P) {ob ob' : Nat → Option (Nat × Th)} {t : TypeId} {D D' : Desc} (hso : ∀ q x, ob q = some x → ∃ x', ob' q = some x' ∧ SoftEq x x') (h : eLen T ob t D = some D') : eLen T ob' t D = some D' := by
  unfold eLen at h ⊢
  split at h
  · split at h
    case h_2 => cases h
    rename_i k hk
    obtain ⟨k', h1, h2⟩ := asSl_soft hso hk
    rw [h1]
    simp only [h2]
    exact h
  · exact h
  · cases h

theorem load_soft {P : Program} (T : Tabs P) {ob : Nat → Option (Nat × Th)} {n : Nat} {t : TypeId} {o : Nat} {d : DR} {i : Int} {p : List Bool} {off : Nat} {e : Eff} (h : eLoadX T ob n t (.dlm o d i p off) some = some e) (hm : o ∈ e.eat ++ keysM e.make) :
    ∃ x y, ob o = some x ∧ find e.make o = some y ∧ SoftEq x y := by
  unfold eLoadX eLoadD at h
  simp only at h
  split at h
  · cases h
  split at h
  case h_2 => cases h
  rename_i s T0 dr l hh ho
  obtain ⟨_, h⟩ := bif_eq h
  split at h
  · obtain ⟨_, h⟩ := bif_eq h
    obtain ⟨_, _, h⟩ := bind_some h
    cases h
    simp [keysM] at hm
  · obtain ⟨_, h⟩ := bif_eq h
    split at h
    · obtain ⟨_, _, h⟩ := bind_some h
      cases h
      exact ⟨_, (n, .deep T0 dr l _), ho, by rw [find_cons, if_pos rfl], .inr ⟨T0, dr, l, none, _, rfl, rfl⟩⟩
    · obtain ⟨_, h⟩ := bif_eq h
      split at h
      · obtain ⟨_, _, h⟩ := bind_some h
        cases h
        simp [keysM] at hm
      · cases h
  · cases h

theorem dstep_ok {P : Program} {E : Env P} {U : Nat → Prop} {R : Type} {o : Oper} {gs : List Nat} {st : State} {k : Eff → Ent → Option R} {q : R} (h : dstep E o.dst o.op gs st k = some q) :
    ∃ e ent, k e ent = some q ∧ ent.e = e ∧ (∀ g ∈ gs, g ∈ ent.ts) ∧ EntOK P U o (find st.slots) (find st.objs) st.nxt ent := by
  unfold dstep at h
  split at h
  case h_2 => cases h
  rename_i objs1 hfz
  obtain ⟨hfn, h'⟩ := bif_eq h
  clear h
  rw [opE_bind] at h'
  obtain ⟨e, he, hk⟩ := bind_some h'
  have hslR : ∀ t d, find (keepL (tmpsOf o.op.operands.toList) st.slots) t = some d → t ∈ tmpsOf o.op.operands.toList ∧ find st.slots t = some d := fun t d ht => find_keep.1 ht
  have hobR : ∀ q x, find (keepL (touchedO st o.op) st.objs) q = some x → q ∈ touchedO st o.op ∧ find st.objs q = some x := fun q x hx => find_keep.1 hx
  refine ⟨_, _, hk, rfl, fun g hg => by simp [hg], rfl, ⟨find (keepL (tmpsOf o.op.operands.toList) st.slots), find (keepL (touchedO st o.op) st.objs), fun t d ht => ⟨by simp [(hslR t d ht).1], (hslR t d ht).2⟩, fun q x hx => ⟨?_, (hobR q x hx).2⟩, fun H F w ρ obR' hso hsl hob => ?_⟩, fun q hq hm => ?_⟩
  · cases hl : lightB o.op with
    | true => exact .inr (by simp only [cond_true]; exact (hobR q x hx).1)
    | false => exact .inl (by simp only [cond_false]; exact (hobR q x hx).1)
  · cases hl : lightB o.op with
    | false =>
      simp only [hl, cond_false] at hso
      have hsub : ∀ q x, find (keepL (touchedO st o.op) st.objs) q = some x → obR' q = some x := fun q x hx => by
        obtain ⟨x', h1, _, h2⟩ := hso q x hx
        rw [h1, h2 (hobR q x hx).1]
      have hob2 : ObSat U H F w (find (keepL (touchedO st o.op) st.objs)) st.nxt := ⟨fun o s t ho => hob.obj o s t (hsub _ _ ho), fun o o' s s' t t' v v' hne ho ho' => hob.apart o o' s s' t t' v v' hne (hsub _ _ ho) (hsub _ _ ho'), hob.fresh, hob.lt, hob.new, hob.gl⟩
      refine ⟨_, hsub, ?_⟩
      obtain ⟨F1, hs1, hF1, hF2⟩ := frzAll_ok hfz hob2
      have hst : Step F w F1 w := fun b hb => ⟨hF1 b hb, rfl⟩
      obtain ⟨e', he', hs⟩ := opE_ok (ρ := ρ) (ty := o.type) (pos := o.pos) (aft := o.after) E (fun x d hx => rdo_ok hs1.gl (fun t d ht => (hsl t d ht).keep (Hist.le.refl H) hst) x d hx) (fun hn c hc => by rw [hn, hc] at hfn; exact hfn) he hs1
      obtain rfl := Option.some.inj he'
      exact hs.mono fun v w' hp => full_post hfz hs1 hF1 hF2 hp
    | true =>
      refine ⟨obR', fun _ _ h => h, ?_⟩
      obtain ⟨odst, oop, oty, opos, oaft, ogd⟩ := o
      simp only at *
      cases oop <;> try (cases hl; done)
      rename_i c
      obtain ⟨callee, args, tys⟩ := c
      cases callee <;> try (cases hl; done)
      rename_i b
      cases b <;> try (cases hl; done)
      cases odst with
      | none => cases hfn
      | some d =>
        have hnd : needsE E (rdo (keepL (tmpsOf (Op.operands (.call { callee := .builtin .len, args := args, argTypes := tys })).toList) st.slots)) (keepL (touchedO st (.call { callee := .builtin .len, args := args, argTypes := tys })) st.objs) (.call { callee := .builtin .len, args := args, argTypes := tys }) = [] := by unfold needsE; cases E.deep <;> rfl
        rw [hnd] at hfz ⊢
        obtain rfl := Option.some.inj hfz
        have he2 : callE E _ _ st.nxt (.builtin .len) args tys some = some e := he
        unfold callE at he2
        simp only at he2
        split at he2
        case h_2 => cases he2
        rename_i x t ha ht
        obtain rfl := toArray_of ha
        obtain rfl := toArray_of ht
        split at he2
        case h_2 => cases he2
        rename_i D hD
        split at he2
        case h_2 => cases he2
        rename_i D' hD'
        cases he2
        have hlen := eLen_soft E.T (fun q x hx => by obtain ⟨x', h1, h2, _⟩ := hso q x hx; exact ⟨x', h1, h2⟩) hD'
        exact eLen_ok E.T hlen hob (rdo_ok hob.gl hsl _ _ hD)
  · obtain ⟨odst, oop, oty, opos, oaft, ogd⟩ := o
    simp only at *
    cases oop <;> try (cases hq; done)
    rename_i t x
    unfold softO at hq
    simp only at hq
    split at hq
    case h_2 => cases hq
    rename_i o' d0 i p off hrd
    obtain rfl := List.mem_singleton.1 hq
    have hnd : needsE E (rdo (keepL (tmpsOf (Op.operands (.load t x)).toList) st.slots)) (keepL (touchedO st (.load t x)) st.objs) (.load t x) = [] := by unfold needsE; cases E.deep <;> rfl
    rw [hnd] at hfz hm ⊢
    obtain rfl := Option.some.inj hfz
    cases odst with
    | none => cases he
    | some d =>
      unfold opE at he
      simp only [hrd] at he
      have hm' : q ∈ e.eat ++ keysM e.make := by
        simpa [Ent.mut, fullE, frzOf, del] using hm
      obtain ⟨x1, y1, h1, h2, h3⟩ := load_soft E.T he hm'
      refine ⟨x1, y1, (hobR _ _ h1).2, ?_, h3⟩
      show find (e.make ++ _) q = _
      rw [find_append, h2]
      rfl
end Go.Proofs.YtjeeligfdpociaaGreat

namespace Go.Proofs.YtjeeligfdpociaaGreat
open Go Go.RowKit

/-! ## Who must come before whom -/
def ancE (acc : List Nat) (i : Nat) : List Edge → Option Nat
  | [] => some 0
  | e :: l => match ancE acc i l with
    | some m => bif Region.binds .any e then (bif Nat.blt e.on i then some (m ||| 2 ^ e.on ||| acc.getD e.on 0) else none) else some m
    | none => none
def ancs (acc : List Nat) : List Oper → Option (List Nat)
  | [] => some acc
  | o :: l => match ancE acc acc.length o.after.toList with
    | some m => ancs (acc ++ [m]) l
    | none => none

def optMem (d : Option Nat) (l : List Nat) : Bool :=
  match d with
  | some t => memB t l
  | none => false
def meetB (l l' : List Nat) : Bool := l.any fun o => memB o l'
def Ent.hard (x : Ent) : List Nat := x.mut.filter fun o => !memB o x.soft
def conflict (a b : Ent) : Bool :=
  optMem a.dst b.ts || optMem b.dst a.ts || optMem a.dst (b.dst.toList) || meetB a.mut (b.os ++ b.mut) || meetB a.hard b.ls || meetB (a.os ++ a.ls ++ a.mut) b.mut
/-- Every later one that conflicts with x (which is number i) has i among those before it. -/
def laterOK (ms : List Nat) (i : Nat) (x : Ent) : Nat → List Ent → Bool
  | _, [] => true
  | j, y :: l => (bif conflict x y then Nat.testBit (ms.getD j 0) i else true) && laterOK ms i x (j + 1) l
def pairsOK (ms : List Nat) : Nat → List Ent → Bool
  | _, [] => true
  | i, x :: l => laterOK ms i x (i + 1) l && pairsOK ms (i + 1) l
def drawOK (ops : List Oper) (es : List Ent) : Bool :=
  match ancs [] ops with
  | some ms => pairsOK ms 0 es
  | none => false

section
variable {ops : Array Oper}

/-- Those listed hold with each those that must come before it. -/
def Closed (ops : Array Oper) (S : Nat → Prop) : Prop := ∀ i, S i → ∀ o, ops[i]? = some o → ∀ e ∈ o.after, Region.binds .any e = true → S e.on

theorem ancE_ok {acc : List Nat} {i : Nat} : {l : List Edge} → {m : Nat} → ancE acc i l = some m → ∀ j, m.testBit j = true → ∃ e ∈ l, Region.binds .any e = true ∧ e.on < i ∧ (e.on = j ∨ (acc.getD e.on 0).testBit j = true)
  | [], m, h, j, hj => by
    obtain rfl := Option.some.inj h
    simp at hj
  | e :: l, m, h, j, hj => by
    unfold ancE at h
    split at h
    case h_2 => cases h
    rename_i m0 h0
    cases hb : Region.binds .any e with
    | false =>
      rw [hb, cond_false] at h
      obtain rfl := Option.some.inj h
      obtain ⟨e', a1, a2⟩ := ancE_ok h0 j hj
      exact ⟨e', by simp [a1], a2⟩
    | true =>
      rw [hb, cond_true] at h
      cases hlt : Nat.blt e.on i with
      | false => rw [hlt] at h; cases h
      | true =>
        rw [hlt, cond_true] at h
        obtain rfl := Option.some.inj h
        rw [Nat.testBit_or, Nat.testBit_or, Bool.or_eq_true, Bool.or_eq_true] at hj
        have hlt' : e.on < i := by simpa using hlt
        rcases hj with (hj | hj) | hj
        · obtain ⟨e', a1, a2⟩ := ancE_ok h0 j hj
          exact ⟨e', by simp [a1], a2⟩
        · rw [Nat.testBit_two_pow] at hj
          exact ⟨e, by simp, hb, hlt', .inl (of_decide_eq_true hj)⟩
        · exact ⟨e, by simp, hb, hlt', .inr hj⟩
theorem ancE_lt {acc : List Nat} {i : Nat} : {l : List Edge} → {m : Nat} → ancE acc i l = some m → ∀ e ∈ l, Region.binds .any e = true → e.on < i
  | [], m, h, e, he, _ => by cases he
  | e0 :: l, m, h, e, he, hb => by
    unfold ancE at h
    split at h
    case h_2 => cases h
    rename_i m0 h0
    rcases List.mem_cons.1 he with rfl | he
    · rw [hb, cond_true] at h
      cases hlt : Nat.blt e.on i with
      | false => rw [hlt] at h; cases h
      | true => simpa using hlt
    · exact ancE_lt h0 e he hb

theorem ancs_ok : {l : List Oper} → {acc ms : List Nat} → ancs acc l = some ms → ms.length = acc.length + l.length ∧ (∀ i, i < acc.length → ms.getD i 0 = acc.getD i 0) ∧
    ∀ k o, l[k]? = some o → ∃ m, ancE ms (acc.length + k) o.after.toList = some m ∧ ms.getD (acc.length + k) 0 = m
  | [], acc, ms, h => by
    obtain rfl := Option.some.inj h
    exact ⟨by simp, fun _ _ => rfl, fun k o h => by simp at h⟩
  | o0 :: l, acc, ms, h => by
    unfold ancs at h
    split at h
    case h_2 => cases h
    rename_i m hm
    obtain ⟨a1, a2, a3⟩ := ancs_ok h
    rw [List.length_append, List.length_singleton] at a1 a2 a3
    have acc_eq : ∀ i, i < acc.length → ms.getD i 0 = acc.getD i 0 := fun i hi => by
      rw [a2 i (by omega)]
      simp [List.getD, List.getElem?_append_left hi]
    have cong : ∀ (l : List Edge) (m : Nat), ancE acc acc.length l = some m → ancE ms acc.length l = some m := by
      intro l
      induction l with
      | nil => intro m h; exact h
      | cons e l ih =>
        intro m h
        unfold ancE at h ⊢
        split at h
        case h_2 => cases h
        rename_i m0 h0
        rw [ih m0 h0]
        simp only
        cases hb : Region.binds .any e with
        | false => rw [hb] at h; exact h
        | true =>
          rw [hb, cond_true] at h
          cases hlt : Nat.blt e.on acc.length with
          | false => rw [hlt] at h; cases h
          | true =>
            rw [hlt, cond_true] at h
            rw [cond_true, cond_true, acc_eq _ (by simpa using hlt)]
            exact h
    refine ⟨by rw [a1, List.length_cons]; omega, acc_eq, fun k o ho => ?_⟩
    cases k with
    | zero =>
      obtain rfl : o0 = o := by simpa using ho
      refine ⟨m, cong _ _ hm, ?_⟩
      rw [Nat.add_zero, a2 _ (by omega)]
      simp [List.getD]
    | succ k =>
      have := a3 k o (by simpa using ho)
      rw [show acc.length + 1 + k = acc.length + (k + 1) from by omega] at this
      exact this

theorem anc_in {ms : List Nat} (h : ancs [] ops.toList = some ms) {S : Nat → Prop} (hS : Closed ops S) : ∀ i o, ops[i]? = some o → (∀ e ∈ o.after, Region.binds .any e = true → S e.on) → ∀ j, (ms.getD i 0).testBit j = true → S j := by
  obtain ⟨_, _, a3⟩ := ancs_ok h
  intro i
  induction i using Nat.strongRecOn with
  | _ i ih =>
    intro o ho hd j hj
    obtain ⟨m, h1, h2⟩ := a3 i o (by rw [Array.getElem?_toList]; exact ho)
    simp only [List.length_nil, Nat.zero_add] at h1 h2
    rw [h2] at hj
    obtain ⟨e, he, hb, hlt, h3⟩ := ancE_ok h1 j hj
    have hSe := hd e (by simpa using he) hb
    rcases h3 with rfl | h3
    · exact hSe
    · have hlt2 : e.on < ops.size := by
        have := (Array.getElem?_eq_some_iff.1 ho).1
        omega
      exact ih e.on hlt _ (Array.getElem?_eq_getElem hlt2) (fun e' he' hb' => hS e.on hSe _ (Array.getElem?_eq_getElem hlt2) e' he' hb') j h3
end

/-! ## The state behind a set of operations -/
def slotF (S : Nat → Bool) : Nat → List Ent → (Nat → Option Desc) → Nat → Option Desc
  | _, [], f => f
  | i, x :: l, f => slotF S (i + 1) l (fun t => bif S i && optMem (some t) x.dst.toList then some x.e.dst else f t)
def objF (S : Nat → Bool) : Nat → List Ent → (Nat → Option (Nat × Th)) → Nat → Option (Nat × Th)
  | _, [], f => f
  | i, x :: l, f => objF S (i + 1) l (fun o => bif S i then (find x.e.make o).or (bif memB o x.e.eat then none else f o) else f o)

theorem keysM_mem {l : List (Nat × (Nat × Th))} {o : Nat} {x : Nat × Th} (h : find l o = some x) : o ∈ keysM l := by
  induction l with
  | nil => cases h
  | cons p l ih =>
    obtain ⟨o', y⟩ := p
    rw [find_cons] at h
    split at h
    · rename_i e; subst e; exact List.mem_cons_self
    · exact List.mem_cons_of_mem _ (ih h)

theorem dst_mem {d : Option Nat} {t : Nat} : optMem (some t) d.toList = true ↔ d = some t := by
  unfold optMem
  simp only [memB_iff, Option.mem_toList]

/-- Two sets that agree on all that write t. -/
theorem slotF_congr {S S' : Nat → Bool} {t : Nat} : {l : List Ent} → {i : Nat} → {f f' : Nat → Option Desc} → f t = f' t → (∀ k x, l[k]? = some x → x.dst = some t → S (i + k) = S' (i + k)) → slotF S i l f t = slotF S' i l f' t
  | [], _, _, _, hf, _ => hf
  | x :: l, i, f, f', hf, h => by
    show slotF S (i + 1) l _ t = slotF S' (i + 1) l _ t
    refine slotF_congr ?_ fun k y hy hd => by
      have := h (k + 1) y (by simpa using hy) hd
      rwa [show i + (k + 1) = i + 1 + k from by omega] at this
    by_cases hd : x.dst = some t
    · have := h 0 x rfl hd
      simp only [Nat.add_zero] at this
      rw [this, hf]
    · have : optMem (some t) x.dst.toList = false := by
        cases hb : optMem (some t) x.dst.toList with
        | false => rfl
        | true => exact absurd (dst_mem.1 hb) hd
      rw [this, Bool.and_false, Bool.and_false, cond_false, cond_false, hf]

theorem objF_congr {S S' : Nat → Bool} {o : Nat} : {l : List Ent} → {i : Nat} → {f f' : Nat → Option (Nat × Th)} → f o = f' o → (∀ k x, l[k]? = some x → o ∈ x.mut → S (i + k) = S' (i + k)) → objF S i l f o = objF S' i l f' o
  | [], _, _, _, hf, _ => hf
  | x :: l, i, f, f', hf, h => by
    show objF S (i + 1) l _ o = objF S' (i + 1) l _ o
    refine objF_congr ?_ fun k y hy hd => by
      have := h (k + 1) y (by simpa using hy) hd
      rwa [show i + (k + 1) = i + 1 + k from by omega] at this
    by_cases hd : o ∈ x.mut
    · have := h 0 x rfl hd
      simp only [Nat.add_zero] at this
      rw [this, hf]
    · have h1 : find x.e.make o = none := by
        cases hm : find x.e.make o with
        | none => rfl
        | some y => exact absurd (by simp [Ent.mut, keysM_mem hm]) hd
      have h2 : memB o x.e.eat = false := by
        cases hb : memB o x.e.eat with
        | false => rfl
        | true => exact absurd (by simp [Ent.mut, memB_iff.1 hb]) hd
      rw [h1, h2, Option.none_or, cond_false]
      cases S i <;> cases S' i <;> simp [hf]

/-- From a number on nothing is listed. -/
theorem slotF_none {S : Nat → Bool} {t : Nat} : {l : List Ent} → {i : Nat} → {f : Nat → Option Desc} → (∀ k x, l[k]? = some x → x.dst = some t → S (i + k) = false) → slotF S i l f t = f t
  | [], _, _, _ => rfl
  | x :: l, i, f, h => by
    show slotF S (i + 1) l _ t = _
    rw [slotF_none fun k y hy hd => by
      have := h (k + 1) y (by simpa using hy) hd
      rwa [show i + (k + 1) = i + 1 + k from by omega] at this]
    by_cases hd : x.dst = some t
    · have := h 0 x rfl hd
      simp only [Nat.add_zero] at this
      simp [this]
    · have : optMem (some t) x.dst.toList = false := by
        cases hb : optMem (some t) x.dst.toList with
        | false => rfl
        | true => exact absurd (dst_mem.1 hb) hd
      simp [this]
theorem objF_none {S : Nat → Bool} {o : Nat} : {l : List Ent} → {i : Nat} → {f : Nat → Option (Nat × Th)} → (∀ k x, l[k]? = some x → o ∈ x.mut → S (i + k) = false) → objF S i l f o = f o
  | [], _, _, _ => rfl
  | x :: l, i, f, h => by
    show objF S (i + 1) l _ o = _
    rw [objF_none fun k y hy hd => by
      have := h (k + 1) y (by simpa using hy) hd
      rwa [show i + (k + 1) = i + 1 + k from by omega] at this]
    by_cases hd : o ∈ x.mut
    · have := h 0 x rfl hd
      simp only [Nat.add_zero] at this
      simp [this]
    · have h1 : find x.e.make o = none := by
        cases hm : find x.e.make o with
        | none => rfl
        | some y => exact absurd (by simp [Ent.mut, keysM_mem hm]) hd
      have h2 : memB o x.e.eat = false := by
        cases hb : memB o x.e.eat with
        | false => rfl
        | true => exact absurd (by simp [Ent.mut, memB_iff.1 hb]) hd
      simp only [h1, h2, Option.none_or, cond_false]
      cases S i <;> rfl

/-- Up to a number. -/
theorem slotF_append {S : Nat → Bool} {l l' : List Ent} {i : Nat} {f : Nat → Option Desc} : slotF S i (l ++ l') f = slotF S (i + l.length) l' (slotF S i l f) := by
  induction l generalizing i f with
  | nil => rfl
  | cons x l ih =>
    show slotF S (i + 1) (l ++ l') _ = slotF S (i + (l.length + 1)) l' (slotF S (i + 1) l _)
    rw [ih, show i + 1 + l.length = i + (l.length + 1) from by omega]
theorem objF_append {S : Nat → Bool} {l l' : List Ent} {i : Nat} {f : Nat → Option (Nat × Th)} : objF S i (l ++ l') f = objF S (i + l.length) l' (objF S i l f) := by
  induction l generalizing i f with
  | nil => rfl
  | cons x l ih =>
    show objF S (i + 1) (l ++ l') _ = objF S (i + (l.length + 1)) l' (objF S (i + 1) l _)
    rw [ih, show i + 1 + l.length = i + (l.length + 1) from by omega]
end Go.Proofs.YtjeeligfdpociaaGreat
