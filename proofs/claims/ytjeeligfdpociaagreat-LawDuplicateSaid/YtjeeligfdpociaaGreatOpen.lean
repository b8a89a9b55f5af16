/- From the form's own reading of arguments to the readings of the walks; and how a law's statement is closed. -/
import Derived.Test.YtjeeligfdpociaaGreatRows
import Derived.Test.YtjeeligfdpociaaGreatLit
import Derived.ProofKit
import Derived.OpenShut
import Derived.JoinedCond
import Derived.Deep.Slices
namespace Go.Proofs.YtjeeligfdpociaaGreat
open Go Go.RowKit Go.ChangeShapes Go.WideShapes Go.ChangeAt Go.Deep

/-- Integers within their kind, lengths that memory can bear. -/
def WF : (r : Row) → r.den → Prop
  | .int k, n => k.min ≤ n ∧ n ≤ k.max
  | .bool, _ => True
  | .str, s => s.size ≤ maxLen
  | .slice e, l => l.length ≤ maxLen ∧ ∀ x ∈ l, WF e x
  | .hdr, _ => True
  | .nul _, _ => True
  | .map .., _ => True
  | .pair a b, x => WF a x.1 ∧ WF b x.2

/-- How many values and letters a reading holds. -/
def bulk : (r : Row) → r.den → Nat
  | .int _, _ => 1
  | .bool, _ => 1
  | .str, s => s.size + 1
  | .slice e, l => (l.map (bulk e)).sum + 1
  | .hdr, _ => 1
  | .nul _, _ => 1
  | .map .., _ => 1
  | .pair a b, x => bulk a x.1 + bulk b x.2

theorem bulk_pos : (r : Row) → (x : r.den) → 0 < bulk r x
  | .int _, _ => by simp [bulk]
  | .bool, _ => by simp [bulk]
  | .str, s => by simp [bulk]
  | .slice e, l => by simp [bulk]
  | .hdr, _ => by simp [bulk]
  | .nul _, _ => by simp [bulk]
  | .map .., _ => by simp [bulk]
  | .pair a b, x => by have := bulk_pos a x.1; simp [bulk]; omega

theorem length_le_sum {α : Type} (f : α → Nat) (hf : ∀ x, 0 < f x) : (l : List α) → l.length ≤ (l.map f).sum
  | [] => by simp
  | a :: l => by have := length_le_sum f hf l; have := hf a; simp; omega
theorem length_le_bulk {e : Row} (l : List e.den) : l.length ≤ bulk (.slice e) l := by
  have := length_le_sum (bulk e) (bulk_pos e) l
  simp only [bulk]
  omega
theorem le_sum_of_mem {α : Type} (f : α → Nat) {x : α} : {l : List α} → x ∈ l → f x ≤ (l.map f).sum
  | a :: l, h => by
    rcases List.mem_cons.1 h with rfl | h
    · simp
    · have := le_sum_of_mem f h; simp; omega

theorem uptoBulkAll_sum {H : Type} : (l : List (DataW H)) → Rows.uptoBulkAll l = (l.map Rows.uptoBulk).sum
  | [] => by simp [Rows.uptoBulkAll]
  | a :: l => by simp [Rows.uptoBulkAll, uptoBulkAll_sum l]

def here (w : World) (b : Nat) : Prop := b < w.heap.size

/-- What the form reads of type t, the walks read as r. -/
def Opens (P : Program) (t : TypeId) (r : Row) : Prop :=
  ∀ (H : Type) (enc : TypeId × Value → H) (w : World) (spare : Nat → Bool) (held : Bool) (fuel : Nat) (cs : List Value) (x : DataW H × List MemPlace), DataW.trod enc P w 0 spare held fuel t cs = some x →
    ∃ y : r.den, Rep (here w) w r cs y ∧ WF r y ∧ bulk r y ≤ Rows.uptoBulk x.1

def OpensFs (P : Program) (fs : List Field) (r : Row) (off : Nat) : Prop :=
  ∀ (H : Type) (enc : TypeId × Value → H) (w : World) (spare : Nat → Bool) (held : Bool) (n : Nat) (cs : List Value) (xs : List (DataW H × List MemPlace)), xs.length = fs.length →
    (∀ (i : Nat) (f : Field), fs[i]? = some f → DataW.trod enc P w 0 spare held n f.type ((cs.drop f.offset).take (P.cellsOf f.type)) = xs[i]?) → off + r.size ≤ cs.length →
    ∃ y : r.den, Rep (here w) w r ((cs.drop off).take r.size) y ∧ WF r y ∧ bulk r y ≤ Rows.uptoBulkAll (xs.map (·.1))

section
variable {P : Program} {t e : TypeId} {r a b : Row} {k : IntKind}

theorem opens_int (ht : P.underlying t = some (.int k)) : Opens P t (.int k) := by
  intro H enc w spare held fuel cs x h
  obtain ⟨n, rfl, rfl, hn⟩ := DataW.trod_int ht h
  exact ⟨n, rfl, by simpa [Lit.wf, WF] using hn, by simp [bulk, Rows.uptoBulk]⟩
theorem opens_bool (ht : P.underlying t = some .bool) : Opens P t .bool := by
  intro H enc w spare held fuel cs x h
  obtain ⟨n, rfl, rfl⟩ := DataW.trod_bool ht h
  exact ⟨n, rfl, trivial, by simp [bulk, Rows.uptoBulk]⟩
theorem opens_str (ht : P.underlying t = some .string) : Opens P t .str := by
  intro H enc w spare held fuel cs x h
  obtain ⟨s, rfl, rfl, hs⟩ := DataW.trod_string ht h
  exact ⟨s, rfl, hs, Nat.le_of_eq rfl⟩

theorem list_of_exists {α : Type} {p : Nat → α → Prop} : (n : Nat) → (∀ i, i < n → ∃ x, p i x) → ∃ l : List α, l.length = n ∧ ∀ i (h : i < l.length), p i l[i]
  | 0, _ => ⟨[], rfl, fun i h => absurd h (by simp)⟩
  | n + 1, h => by
    obtain ⟨l, hl, hp⟩ := list_of_exists n fun i hi => h i (by omega)
    obtain ⟨x, hx⟩ := h n (by omega)
    refine ⟨l ++ [x], by simp [hl], fun i hi => ?_⟩
    rcases Nat.lt_or_ge i l.length with hlt | hge
    · rw [List.getElem_append_left hlt]; exact hp i hlt
    · obtain rfl : i = n := by simp at hi; omega
      rw [List.getElem_append_right hge]
      simpa [hl] using hx

theorem opens_slice (ht : P.underlying t = some (.slice e)) (hs : P.cellsOf e = r.size) (he : Opens P e r) : Opens P t (.slice r) := by
  intro H enc w spare held fuel cs x h
  rcases open_slice ht h with ⟨rfl, rfl⟩ | ⟨ad, len, cap, m, n, D, Pl, rfl, _, hl, hm, hmm, rfl, hi⟩
  · exact ⟨[], Rep.nil _ _ _, ⟨by simp [maxLen], fun x hx => absurd hx (by simp)⟩, by simp [bulk, Rows.uptoBulk]⟩
  · have hlm : len ≤ m := by rw [hmm]; split <;> omega
    have key : ∀ i, i < len → ∃ y : r.den, ∃ cs', (cs'.length = r.size ∧ (∀ j, j < r.size → w.cell? ((ad.add (i * r.size)).add j) = cs'[j]?)) ∧ Rep (here w) w r cs' y ∧ WF r y ∧ bulk r y ≤ Rows.uptoBulk (D i) := by
      intro i hi'
      obtain ⟨cs', hc, htr⟩ := hi i (by omega)
      rw [hs] at hc
      obtain ⟨_, hc1, hc2⟩ := World.cells?_some hc
      obtain ⟨y, h1, h2, h3⟩ := he H enc w spare held n cs' _ htr
      exact ⟨y, cs', ⟨hc1, hc2⟩, h1, h2, h3⟩
    obtain ⟨l, hll, hp⟩ := list_of_exists len key
    subst hll
    have hpos := r.size_pos
    refine ⟨l, ⟨some ad, cap, rfl, hl, hm, fun i hi => ?_⟩, ⟨by omega, fun x hx => ?_⟩, ?_⟩
    · obtain ⟨cs', ⟨hc1, hc2⟩, hr, _, _⟩ := hp i hi
      obtain ⟨cs0, ⟨hd1, hd2⟩, _⟩ := hp 0 (by omega)
      have h0 := hd2 0 hpos
      rw [List.getElem?_eq_getElem (by omega)] at h0
      simp only [Nat.zero_mul, Addr.add, if_true] at h0
      have hsp : ad.spot = none := by
        cases hsp : ad.spot with
        | none => rfl
        | some q =>
          unfold World.cell? at h0
          split at h0
          · simp [hsp] at h0
          · cases h0
      obtain ⟨bb, off, sp⟩ := ad
      simp only at hsp
      subst hsp
      refine ⟨bb, off, cs', rfl, block_lt_of_cell h0, hc1, fun j u hu => ?_, hr⟩
      have hj : j < cs'.length := (List.getElem?_eq_some_iff.1 hu).1
      have := hc2 j (by omega)
      rw [addr_add_none, addr_add_none] at this
      rw [this, hu]
    · obtain ⟨i, hi, rfl⟩ := List.getElem_of_mem hx
      obtain ⟨_, _, _, h2, _⟩ := hp i hi
      exact h2
    · simp only [bulk, Rows.uptoBulk, uptoBulkAll_sum]
      have : ∀ (n : Nat), n ≤ l.length → ((l.take n).map (bulk r)).sum ≤ (((List.range n).map D).map Rows.uptoBulk).sum := by
        intro n hn
        induction n with
        | zero => simp
        | succ n ih =>
          have h1 := ih (by omega)
          obtain ⟨_, _, _, _, h3⟩ := hp n (by omega)
          rw [List.take_succ_eq_append_getElem (by omega), List.range_succ]
          simp only [List.map_append, List.sum_append, List.map_cons, List.map_nil, List.sum_cons, List.sum_nil]
          omega
      have h1 := this l.length (Nat.le_refl _)
      rw [List.take_length] at h1
      omega

theorem opensF_last {f : Field} {off : Nat} (ho : f.offset = off) (hc : P.cellsOf f.type = r.size) (he : Opens P f.type r) : OpensFs P [f] r off := by
  intro H enc w spare held n cs xs hl hx _
  subst ho
  match xs, hl with
  | [x], _ =>
    have h := hx 0 f rfl
    rw [hc] at h
    obtain ⟨y, h1, h2, h3⟩ := he H enc w spare held n _ x h
    exact ⟨y, h1, h2, by simpa [Rows.uptoBulkAll] using h3⟩

theorem opensF_cons {f : Field} {fs : List Field} {off : Nat} (ho : f.offset = off) (hc : P.cellsOf f.type = a.size) (he : Opens P f.type a) (hr : OpensFs P fs b (off + a.size)) : OpensFs P (f :: fs) (.pair a b) off := by
  intro H enc w spare held n cs xs hl hx hle
  subst ho
  match xs, hl with
  | x :: xs, hl =>
    have h := hx 0 f rfl
    rw [hc] at h
    obtain ⟨y, h1, h2, h3⟩ := he H enc w spare held n _ x h
    simp only [Row.size] at hle
    obtain ⟨z, g1, g2, g3⟩ := hr H enc w spare held n cs xs (by simpa using hl) (fun i f' hf => by simpa using hx (i + 1) f' (by simpa using hf)) (by omega)
    refine ⟨(y, z), ⟨_, _, ?_, h1, g1⟩, ⟨h2, g2⟩, by simp only [bulk, List.map_cons, Rows.uptoBulkAll]; omega⟩
    simp only [Row.size]
    rw [← List.drop_drop, List.take_add]

theorem opens_struct {fs : Array Field} (ht : P.underlying t = some (.struct fs)) (hc : P.cellsOf t = r.size) (h : OpensFs P fs.toList r 0) : Opens P t r := by
  intro H enc w spare held fuel cs x hx
  obtain ⟨xs, n, _, rfl, hlen, hxl, hf⟩ := DataW.trod_struct ht hx
  rw [hc] at hlen
  obtain ⟨y, h1, h2, h3⟩ := h H enc w spare held n cs xs (by simpa using hxl) (fun i f hi => hf i f (by simpa using hi)) (by omega)
  rw [List.drop_zero, ← hlen, List.take_length] at h1
  exact ⟨y, h1, h2, by simp only [Rows.uptoBulk]; omega⟩

/-! ## An argument -/
variable {H : Type} {enc : TypeId × Value → H} {w : World} {base : Nat} {spare : Nat → Bool} {held : Bool} {v : Value} {d : DataW H} {ps : List MemPlace}

theorem arg_int (ht : P.underlying t = some (.int k)) (hv : Value.okWide P w .any base t v) (h : DataW.Trod enc P w 0 spare held t v d ps) : ∃ n : Int, v = .int k n ∧ WF (.int k) n ∧ bulk (.int k) n ≤ Rows.uptoBulk d := by
  obtain ⟨x, rfl, rfl, rfl, wx⟩ := open_int ht hv h
  exact ⟨x, rfl, by simpa [Lit.wf, WF] using wx, by simp [bulk, Rows.uptoBulk]⟩
theorem arg_bool (ht : P.underlying t = some .bool) (hv : Value.okWide P w .any base t v) (h : DataW.Trod enc P w 0 spare held t v d ps) : ∃ n : Bool, v = .bool n ∧ WF .bool n ∧ bulk .bool n ≤ Rows.uptoBulk d := by
  obtain ⟨x, rfl, rfl, rfl⟩ := open_bool ht hv h
  exact ⟨x, rfl, trivial, by simp [bulk, Rows.uptoBulk]⟩
theorem arg_slice (ht : P.underlying t = some (.slice e)) (ho : Opens P t (.slice r)) (hv : Value.okWide P w .any base t v) (h : DataW.Trod enc P w 0 spare held t v d ps) :
    ∃ l : List r.den, Rep (here w) w (.slice r) [v] l ∧ WF (.slice r) l ∧ bulk (.slice r) l ≤ Rows.uptoBulk d := by
  obtain ⟨a0, len, cap, rfl⟩ := okWide_slice ht hv
  obtain ⟨fuel, hf⟩ := h
  exact ho H enc w spare held fuel _ _ hf
theorem arg_struct {fs : Array Field} (ht : P.underlying t = some (.struct fs)) (ho : Opens P t r) (hv : Value.okWide P w .any base t v) (h : DataW.Trod enc P w 0 spare held t v d ps) :
    ∃ (es : List Value) (x : r.den), v = .agg es.toArray ∧ Rep (here w) w r es x ∧ WF r x ∧ bulk r x ≤ Rows.uptoBulk d := by
  obtain ⟨cs, rfl, _⟩ := okWide_struct ht hv
  obtain ⟨fuel, hf⟩ := h
  obtain ⟨x, h1, h2, h3⟩ := ho H enc w spare held fuel _ _ hf
  exact ⟨cs.toList, x, by simp, by simpa [Value.cells] using h1, h2, h3⟩

/-! ## What stands behind the call -/
theorem trodAll_stays (hl : laidOutB P = true) {W W' : World} (hb : Below W.heap.size W W') {sp : Nat → Bool} : (ts : List TypeId) → (vs : List Value) → (ds : List (DataW H)) → (ps : List MemPlace) →
    (∀ t ∈ ts, (P.readableRec t && Nat.blt t P.types.size) = true) → DataW.TrodAll enc P W 0 (fun _ => true) true ts vs ds ps → (∀ x ∈ ps, x.block < W.heap.size) → (∀ x ∈ ps, sp x.block = true) → DataW.TrodAll enc P W' 0 sp true ts vs ds ps
  | [], [], [], _, _, h, _, _ => h
  | t :: ts, v :: vs, d :: ds, ps, hr, h, hlt, hsp => by
    obtain ⟨p, q, h1, h2, rfl⟩ := h
    have ht := hr t (by simp)
    simp only [Bool.and_eq_true, Nat.blt_eq] at ht
    exact ⟨p, q, WideElems.Trod_stays hl ht.1 ht.2 h1 (fun x hx => hb.same (hlt x (by simp [hx]))) (fun x hx => hsp x (by simp [hx])),
      trodAll_stays hl hb ts vs ds q (fun t ht => hr t (by simp [ht])) h2 (fun x hx => hlt x (by simp [hx])) (fun x hx => hsp x (by simp [hx])), rfl⟩

theorem post_of_below {f : Func} {s : ChangeSpec} {apart fresh handsOn again : Bool} {W W' : World} {args : Array Value} {v : Value} {ds gs : List (DataW H)} {before pa pv : List MemPlace}
    (hW : DataW.Whole enc P f.params.toList s.vars apart W args.toList ds gs before)
    (hres : ∀ (b : Nat) (sp : Nat → Bool) (hd : Bool), DataW.TrodAll enc P W' b sp hd f.resultTypes.toList (v.resultList f.resultTypes.size) (s.fn H (ds ++ gs)).results [])
    (hargs : ∀ sp : Nat → Bool, (∀ p ∈ before, sp p.block = true) → DataW.TrodAll enc P W' 0 sp true f.params.toList args.toList (s.fn H (ds ++ gs)).args pa)
    (hvars : ∀ sp : Nat → Bool, (∀ p ∈ before, sp p.block = true) → DataW.TrodVars enc P W' sp s.vars (s.fn H (ds ++ gs)).vars pv)
    (hps : before = pa ++ pv) (hb : Below W.heap.size W W')
    (hok : ∀ (j : Nat) (t : TypeId) (r : Value), f.resultTypes[j]? = some t → (v.resultList f.resultTypes.size)[j]? = some r → Value.okWide P W' .any 0 t r) :
    s.post enc P f apart fresh handsOn again W args v W' := by
  have hlt : ∀ p ∈ before, p.block < W.heap.size := fun p hp => hW.lt p hp
  have hold : ∀ p ∈ before, (fun b => decide (b < W.heap.size)) p.block = true := fun p hp => by simpa using hlt p hp
  refine ⟨ds, gs, before, [], pa, pv, hW, hres _ _ _, hargs _ hold, hvars _ hold, World.keptBut_mono (fun p hp => ⟨hp, ?_⟩) (hb.frame (· ∈ before)), fun _ => ?_⟩
  · rw [hps, List.mem_append] at hp
    exact Or.inr hp
  · obtain ⟨_, _, _, _, _, hz, hn⟩ := hW
    refine ⟨hok, _, _, ([] ++ pa) ++ pv, ⟨[] ++ pa, pv, trodAll_append (hargs _ (fun _ _ => rfl)) (hres _ _ _), hvars _ (fun _ _ => rfl), rfl, ?_, ?_⟩, ?_⟩
    · intro b off hp
      have hin : MemPlace.cell b off ∈ before := by rw [hps]; simpa using hp
      rw [hb.frozen (hlt _ hin)]
      exact hz b off hin
    · intro ha
      have := hn ha
      rw [hps] at this
      simpa using this
    · intro p hp _
      rw [hps]
      simpa using hp
end
end Go.Proofs.YtjeeligfdpociaaGreat
