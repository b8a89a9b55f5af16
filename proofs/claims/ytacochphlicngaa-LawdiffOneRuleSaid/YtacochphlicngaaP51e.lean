/- Chapter 51: changes of valid laws: distinct names, counterparts, membership of changes (plain). -/
import Derived.Test.YtacochphlicngaaP51d
import Derived.Test.YtacochphlicngaaRF
namespace Go.Proofs.Ytacochphlicngaa
open Go Go.RowKit
set_option maxRecDepth 100000
set_option linter.unusedSimpArgs false
namespace L

/-- Names that are distinct. -/
def Dn {β : Type} (l : List (ByteArray × β)) : Prop := ∀ i j, ∀ hi : i < l.length, ∀ hj : j < l.length, l[i].1 = l[j].1 → i = j
theorem Dn.of {β : Type} {l : List (ByteArray × β)} (h : ∀ k, ∀ hk : k < l.length, ¬ hasN (l.take k) l[k].1) : Dn l := fun i j hi hj e => by
  rcases Nat.lt_trichotomy i j with hlt | rfl | hlt
  · exact absurd (hasN_take.2 ⟨i, hi, hlt, e⟩) (h j hj)
  · rfl
  · exact absurd (hasN_take.2 ⟨j, hj, hlt, e.symm⟩) (h i hi)
theorem rul_ok {l : Lw} {x : Scp} {k : Nat} {r : Rul} (h : rulE l x k r = 0) : ¬ hasN (x.2.2.2.2.take k) r.1 ∧ 0 ≤ (r.2.1 : Int) ∧ (r.2.1 : Int) < (x.2.2.2.1.length : Int) := by
  unfold rulE at h
  split at h
  · cases h
  split at h
  · cases h
  split at h
  · cases h
  rename_i h1 h2 h3
  exact ⟨h2, (Classical.not_not.1 h3).1, (Classical.not_not.1 h3).2⟩
theorem fld_ok {l : Lw} {x : Scp} (h : fldS l x = none) : Dn x.2.2.2.1 := by
  unfold fldS at h
  rw [Option.or_eq_none_iff] at h
  refine Dn.of fun k hk g => ?_
  have := firstE_none.1 h.2 k hk
  unfold defE at this
  rw [List.getElem?_eq_getElem hk] at this
  dsimp only at this
  split at this
  · cases this
  rw [if_pos (.inr g)] at this
  cases this

/-- What the laws of chapter 51 take from validity. -/
structure Good (l : List Sc) : Prop where
  dn : Dn l
  rn : ∀ s ∈ l, Dn s.2.2.2.2
  fn : ∀ s ∈ l, Dn s.2.2.2.1
  df : ∀ s ∈ l, ∀ r ∈ s.2.2.2.2, 0 ≤ (r.2.1 : Int) ∧ (r.2.1 : Int) < (s.2.2.2.1.length : Int)
theorem Valid.good {l : Lw} (h : Valid l) : Good l.2.2 := by
  refine ⟨Dn.of fun k hk => (h.scope k hk).2.1, fun s hs => ?_, fun s hs => ?_, fun s hs r hr => ?_⟩
  · obtain ⟨k, hk, rfl⟩ := List.getElem_of_mem hs
    exact Dn.of fun i hi => (rul_ok ((h.scope k hk).2.2.2.2.2.2.1 i hi)).1
  · obtain ⟨k, hk, rfl⟩ := List.getElem_of_mem hs
    exact fld_ok (h.scope k hk).2.2.2.2.2.1
  · obtain ⟨k, hk, rfl⟩ := List.getElem_of_mem hs
    obtain ⟨i, hi, rfl⟩ := List.getElem_of_mem hr
    exact (rul_ok ((h.scope k hk).2.2.2.2.2.2.1 i hi)).2

theorem find_dn {β : Type} {l : List (ByteArray × β)} (h : Dn l) {i : Nat} (hi : i < l.length) {nm : ByteArray} (e : l[i].1 = nm) : l.findIdx? (fun x => decide (x.1 = nm)) = some i := by
  rw [List.findIdx?_eq_some_iff_getElem]
  exact ⟨hi, decide_eq_true e, fun j hj => by
    simp only [decide_eq_true_eq]
    intro g
    have := h j i (by omega) hi (g.trans e.symm)
    omega⟩
theorem find_none {β : Type} {l : List (ByteArray × β)} {nm : ByteArray} : l.findIdx? (fun x => decide (x.1 = nm)) = none ↔ ∀ i, ∀ hi : i < l.length, l[i].1 ≠ nm := by
  rw [List.findIdx?_eq_none_iff]
  constructor
  · intro h i hi
    have := h _ (List.getElem_mem hi)
    simpa using this
  · intro h x hx
    obtain ⟨i, hi, rfl⟩ := List.getElem_of_mem hx
    simpa using h i hi
theorem cp_at {l : List Sc} (g : Good l) {i k : Nat} (hi : i < l.length) (hk : k < l[i].2.2.2.2.length) {sn rn : ByteArray} (es : (l[i].1 : ByteArray) = sn) (er : (l[i].2.2.2.2[k].1 : ByteArray) = rn) : cp l sn rn = some (l[i], k) := by
  have h1 : firstS l sn = some i := find_dn g.dn hi es
  have h2 : firstR l[i].2.2.2.2 rn = some k := find_dn (g.rn _ (List.getElem_mem hi)) hk er
  unfold cp
  rw [h1]
  dsimp only
  rw [List.getElem?_eq_getElem hi]
  dsimp only
  rw [h2]
  rfl
theorem cp_some {l : List Sc} {sn rn : ByteArray} {t : Sc} {n : Nat} (h : cp l sn rn = some (t, n)) : ∃ i, ∃ hi : i < l.length, l[i] = t ∧ (t.1 : ByteArray) = sn ∧ ∃ hn : n < t.2.2.2.2.length, (t.2.2.2.2[n].1 : ByteArray) = rn := by
  unfold cp at h
  split at h
  · cases h
  rename_i i hi
  obtain ⟨hl, hp, _⟩ := List.findIdx?_eq_some_iff_getElem.1 hi
  rw [List.getElem?_eq_getElem hl] at h
  dsimp only at h
  obtain ⟨n', hn, e⟩ := Option.map_eq_some_iff.1 h
  cases e
  obtain ⟨hl', hp', _⟩ := List.findIdx?_eq_some_iff_getElem.1 hn
  exact ⟨i, hl, rfl, by simpa using hp, hl', by simpa using hp'⟩

theorem eqv_iff {s t : Sc} {i j : Nat} (hi : i < s.2.2.2.2.length) (hj : j < t.2.2.2.2.length) (hw : WF rScope s) : eqv s i t j = true ↔ props s s.2.2.2.2[i] = props t t.2.2.2.2[j] ∧ s.2.2.2.2[i].2.2.2.2.2.1 = t.2.2.2.2[j].2.2.2.2.2.1 ∧ s.2.2.2.2[i].2.2.2.2.2.2.1 = t.2.2.2.2[j].2.2.2.2.2.2.1 := by
  obtain ⟨r, e, h⟩ := equal_P s t i j hi hj hw
  unfold eqv
  rw [e]
  exact h
theorem eqv_symm {s t : Sc} {i j : Nat} (hi : i < s.2.2.2.2.length) (hj : j < t.2.2.2.2.length) (hw : WF rScope s) (hw' : WF rScope t) : eqv s i t j = eqv t j s i := by
  rw [Bool.eq_iff_iff, eqv_iff hi hj hw, eqv_iff hj hi hw']
  exact ⟨fun h => ⟨h.1.symm, h.2.1.symm, h.2.2.symm⟩, fun h => ⟨h.1.symm, h.2.1.symm, h.2.2.symm⟩⟩
theorem eqv_refl {s : Sc} {i : Nat} (hi : i < s.2.2.2.2.length) (hw : WF rScope s) : eqv s i s i = true := (eqv_iff hi hi hw).2 ⟨rfl, rfl, rfl⟩

/-! ## Membership -/
theorem mem_outL {ch : Sc → Nat → List Ch} {A : List Sc} {z : Ch} : z ∈ outL ch A ↔ ∃ i, ∃ hi : i < A.length, ∃ k, k < A[i].2.2.2.2.length ∧ z ∈ ch A[i] k := by
  unfold outL
  rw [List.mem_flatMap]
  constructor
  · rintro ⟨i, hi, hz⟩
    have hi := List.mem_range.1 hi
    unfold outF outS at hz
    rw [List.getElem?_eq_getElem hi] at hz
    obtain ⟨k, hk, hz⟩ := List.mem_flatMap.1 hz
    exact ⟨i, hi, k, List.mem_range.1 hk, hz⟩
  · rintro ⟨i, hi, k, hk, hz⟩
    refine ⟨i, List.mem_range.2 hi, ?_⟩
    unfold outF outS
    rw [List.getElem?_eq_getElem hi]
    exact List.mem_flatMap.2 ⟨k, List.mem_range.2 hk, hz⟩
theorem mem_ch1 {B : List Sc} {s : Sc} {k : Nat} (hk : k < s.2.2.2.2.length) {z : Ch} : z ∈ ch1 B s k ↔ (z.1 : ByteArray) = s.1 ∧ (z.2.1 : ByteArray) = s.2.2.2.2[k].1 ∧ ((cp B s.1 s.2.2.2.2[k].1 = none ∧ (z.2.2 : Int) = 1) ∨ ∃ t n, cp B s.1 s.2.2.2.2[k].1 = some (t, n) ∧ eqv s k t n = false ∧ (z.2.2 : Int) = 3) := by
  obtain ⟨z1, z2, (z3 : Int)⟩ := z
  unfold ch1
  rw [List.getElem?_eq_getElem hk]
  dsimp only
  cases h : cp B s.1 s.2.2.2.2[k].1 with
  | none => simp
  | some tn =>
    obtain ⟨t, n⟩ := tn
    dsimp only
    by_cases he : eqv s k t n = true
    · rw [if_pos he]
      refine ⟨fun h => (by cases h), ?_⟩
      rintro ⟨_, _, ⟨h, _⟩ | ⟨t', n', h, h', _⟩⟩
      · cases h
      · cases h
        rw [he] at h'
        cases h'
    · rw [if_neg he, List.mem_singleton]
      constructor
      · intro e
        cases e
        exact ⟨rfl, rfl, .inr ⟨t, n, rfl, by simpa using he, rfl⟩⟩
      · rintro ⟨h1, h2, ⟨h, _⟩ | ⟨t', n', h, h', h3⟩⟩
        · cases h
        · have h1 : z1 = s.1 := h1
          have h2 : z2 = s.2.2.2.2[k].1 := h2
          have h3 : z3 = 3 := h3
          subst h1 h2 h3
          rfl
theorem mem_ch2 {B : List Sc} {s : Sc} {k : Nat} (hk : k < s.2.2.2.2.length) {z : Ch} : z ∈ ch2 B s k ↔ (z.1 : ByteArray) = s.1 ∧ (z.2.1 : ByteArray) = s.2.2.2.2[k].1 ∧ cp B s.1 s.2.2.2.2[k].1 = none ∧ (z.2.2 : Int) = 2 := by
  obtain ⟨z1, z2, (z3 : Int)⟩ := z
  unfold ch2
  rw [List.getElem?_eq_getElem hk]
  dsimp only
  cases h : cp B s.1 s.2.2.2.2[k].1 with
  | none => simp
  | some tn => simp
theorem mem_out1 {A B : List Sc} (g : Good A) {z : Ch} : z ∈ outL (ch1 B) A ↔ ∃ s k, cp A z.1 z.2.1 = some (s, k) ∧ ((cp B z.1 z.2.1 = none ∧ (z.2.2 : Int) = 1) ∨ ∃ t n, cp B z.1 z.2.1 = some (t, n) ∧ eqv s k t n = false ∧ (z.2.2 : Int) = 3) := by
  rw [mem_outL]
  constructor
  · rintro ⟨i, hi, k, hk, h⟩
    obtain ⟨h1, h2, h3⟩ := (mem_ch1 hk).1 h
    rw [← h1, ← h2] at h3
    exact ⟨A[i], k, cp_at g hi hk h1.symm h2.symm, h3⟩
  · rintro ⟨s, k, h, h3⟩
    obtain ⟨i, hi, rfl, h1, hk, h2⟩ := cp_some h
    refine ⟨i, hi, k, hk, (mem_ch1 hk).2 ⟨h1.symm, h2.symm, ?_⟩⟩
    rw [h1, h2]
    exact h3
theorem mem_out2 {A B : List Sc} (g : Good B) {z : Ch} : z ∈ outL (ch2 A) B ↔ ∃ t n, cp B z.1 z.2.1 = some (t, n) ∧ cp A z.1 z.2.1 = none ∧ (z.2.2 : Int) = 2 := by
  rw [mem_outL]
  constructor
  · rintro ⟨i, hi, k, hk, h⟩
    obtain ⟨h1, h2, h3⟩ := (mem_ch2 hk).1 h
    rw [← h1, ← h2] at h3
    exact ⟨B[i], k, cp_at g hi hk h1.symm h2.symm, h3⟩
  · rintro ⟨t, n, h, h3⟩
    obtain ⟨i, hi, rfl, h1, hk, h2⟩ := cp_some h
    refine ⟨i, hi, n, hk, (mem_ch2 hk).2 ⟨h1.symm, h2.symm, ?_⟩⟩
    rw [h1, h2]
    exact h3
/-- The changes from a to b. -/
noncomputable def chg (a b : List Sc) : List Ch := outL (ch1 b) a ++ outL (ch2 a) b
def flipK (z : Ch) : Ch := (z.1, (z.2.1, if (z.2.2 : Int) = 1 then (2 : Int) else if (z.2.2 : Int) = 2 then (1 : Int) else z.2.2))
theorem chg_flip {a b : List Sc} (ga : Good a) (gb : Good b) (hwa : ∀ s ∈ a, WF rScope s) (hwb : ∀ s ∈ b, WF rScope s) {z : Ch} (h : z ∈ chg a b) : flipK z ∈ chg b a := by
  obtain ⟨z1, z2, (z3 : Int)⟩ := z
  unfold chg at h ⊢
  unfold flipK
  rcases List.mem_append.1 h with h | h
  · obtain ⟨s, k, h1, ⟨h2, h3⟩ | ⟨t, n, h2, h4, h3⟩⟩ := (mem_out1 ga).1 h
    · have h3 : z3 = 1 := h3
      subst h3
      exact List.mem_append_right _ ((mem_out2 ga).2 ⟨s, k, h1, h2, rfl⟩)
    · have h3 : z3 = 3 := h3
      subst h3
      obtain ⟨i, hi, rfl, _, hk, _⟩ := cp_some h1
      obtain ⟨j, hj, rfl, _, hn, _⟩ := cp_some h2
      exact List.mem_append_left _ ((mem_out1 gb).2 ⟨_, _, h2, .inr ⟨_, _, h1, by rw [eqv_symm hn hk (hwb _ (List.getElem_mem hj)) (hwa _ (List.getElem_mem hi))]; exact h4, rfl⟩⟩)
  · obtain ⟨t, n, h1, h2, h3⟩ := (mem_out2 gb).1 h
    have h3 : z3 = 2 := h3
    subst h3
    exact List.mem_append_left _ ((mem_out1 gb).2 ⟨t, n, h1, .inl ⟨h2, rfl⟩⟩)
theorem len1_nodup {l : List Ch} (h : l.length ≤ 1) : l.Nodup := by
  match l, h with
  | [], _ => exact .nil
  | [x], _ => simp
theorem outL_nodup {A : List Sc} (g : Good A) {ch : Sc → Nat → List Ch} (hl : ∀ s k, (ch s k).length ≤ 1) (hc : ∀ s k, ∀ hk : k < s.2.2.2.2.length, ∀ z ∈ ch s k, (z.1 : ByteArray) = s.1 ∧ (z.2.1 : ByteArray) = s.2.2.2.2[k].1) : (outL ch A).Nodup := by
  unfold outL
  refine List.pairwise_flatMap.2 ⟨fun i hi => ?_, ?_⟩
  · have hi := List.mem_range.1 hi
    unfold outF outS
    rw [List.getElem?_eq_getElem hi]
    refine List.pairwise_flatMap.2 ⟨fun k _ => len1_nodup (hl _ k), ?_⟩
    refine (List.pairwise_lt_range (n := _)).imp_of_mem fun {k k'} hk hk' hlt x hx y hy e => ?_
    have hk := List.mem_range.1 hk
    have hk' := List.mem_range.1 hk'
    have e1 := (hc _ k hk x hx).2
    have e2 := (hc _ k' hk' y hy).2
    have := g.rn _ (List.getElem_mem hi) k k' hk hk' (by rw [← e1, ← e2, e])
    omega
  · refine (List.pairwise_lt_range (n := _)).imp_of_mem fun {i i'} hi hi' hlt x hx y hy e => ?_
    have hi := List.mem_range.1 hi
    have hi' := List.mem_range.1 hi'
    unfold outF outS at hx hy
    rw [List.getElem?_eq_getElem hi] at hx
    rw [List.getElem?_eq_getElem hi'] at hy
    obtain ⟨k, hk, hx⟩ := List.mem_flatMap.1 hx
    obtain ⟨k', hk', hy⟩ := List.mem_flatMap.1 hy
    have e1 := (hc _ k (List.mem_range.1 hk) x hx).1
    have e2 := (hc _ k' (List.mem_range.1 hk') y hy).1
    have := g.dn i i' hi hi' (by rw [← e1, ← e2, e])
    omega
theorem chg_nodup {a b : List Sc} (ga : Good a) (gb : Good b) : (chg a b).Nodup := by
  unfold chg
  refine List.nodup_append.2 ⟨outL_nodup ga (ch1_len b) fun s k hk z hz => ?_, outL_nodup gb (ch2_len a) fun s k hk z hz => ?_, fun x hx y hy e => ?_⟩
  · have := (mem_ch1 hk).1 hz
    exact ⟨this.1, this.2.1⟩
  · have := (mem_ch2 hk).1 hz
    exact ⟨this.1, this.2.1⟩
  · subst e
    obtain ⟨_, _, _, h⟩ := (mem_out1 ga).1 hx
    obtain ⟨_, _, _, _, h2⟩ := (mem_out2 gb).1 hy
    obtain ⟨x1, x2, (x3 : Int)⟩ := x
    dsimp only [rInt, Row.den] at *
    rcases h with ⟨_, h⟩ | ⟨_, _, _, _, h⟩ <;> omega
theorem nodup_sub {α : Type} : ∀ {A B : List α}, A.Nodup → (∀ x ∈ A, x ∈ B) → A.length ≤ B.length
  | [], _, _, _ => Nat.zero_le _
  | x :: A, B, hn, hs => by
    obtain ⟨h1, h2⟩ := List.nodup_cons.1 hn
    obtain ⟨s, t, rfl⟩ := List.append_of_mem (hs x (List.mem_cons_self ..))
    have := nodup_sub (B := s ++ t) h2 fun y hy => by
      have hm := hs y (List.mem_cons_of_mem _ hy)
      rcases List.mem_append.1 hm with h | h
      · exact List.mem_append_left _ h
      · rcases List.mem_cons.1 h with rfl | h
        · exact absurd hy h1
        · exact List.mem_append_right _ h
    simp only [List.length_append, List.length_cons] at *
    omega
theorem flipK_flip (z : Ch) : flipK (flipK z) = z := by
  obtain ⟨z1, z2, (z3 : Int)⟩ := z
  unfold flipK
  dsimp only
  by_cases h1 : z3 = 1
  · subst h1; rfl
  by_cases h2 : z3 = 2
  · subst h2; rfl
  · simp only [h1, h2, if_false]
theorem chg_len {a b : List Sc} (ga : Good a) (gb : Good b) (hwa : ∀ s ∈ a, WF rScope s) (hwb : ∀ s ∈ b, WF rScope s) : (chg a b).length = (chg b a).length := by
  have key : ∀ {a b : List Sc}, Good a → Good b → (∀ s ∈ a, WF rScope s) → (∀ s ∈ b, WF rScope s) → (chg a b).length ≤ (chg b a).length := fun {a b} ga gb hwa hwb => by
    have := nodup_sub (A := (chg a b).map flipK) (B := chg b a) ?_ fun x hx => by
      obtain ⟨y, hy, rfl⟩ := List.mem_map.1 hx
      exact chg_flip ga gb hwa hwb hy
    · rwa [List.length_map] at this
    · refine List.Pairwise.map _ (fun x y hne e => hne ?_) (chg_nodup ga gb)
      rw [← flipK_flip x, e, flipK_flip]
  exact Nat.le_antisymm (key ga gb hwa hwb) (key gb ga hwb hwa)
end L
end Go.Proofs.Ytacochphlicngaa
