/- Slices of the call's own whose elements are slices of the call's own: x[k] = append(x[k], ..). -/
import Derived.Test.YtacochphlicngaaLit
namespace Go.Proofs.Ytacochphlicngaa
open Go Go.RowKit

/-- A family of slices of the call's own, no two in one block. -/
def Fam (base : Nat) (F : Nat → Prop) (w : World) (e : TypeId) (r : Row) (hs : List Value) (ll : List (List r.den)) : Prop :=
  hs.length = ll.length ∧ (∀ i (h : i < hs.length) (h' : i < ll.length), Own base F w e r hs[i] ll[i]) ∧ ∀ i j (h : i < hs.length) (h' : j < hs.length), i ≠ j → ∀ k, mine hs[i] k → ¬ mine hs[j] k
def fam (hs : List Value) (k : Nat) : Prop := ∃ i, ∃ h : i < hs.length, mine hs[i] k

/-- The outer slice holds the values hs; the family's values are hs'. -/
def Own2 (base : Nat) (F : Nat → Prop) (w : World) (T e : TypeId) (r : Row) (v : Value) (hs hs' : List Value) (ll : List (List r.den)) : Prop :=
  Own base F w T .hdr v hs ∧ Fam base F w e r hs' ll ∧ ∀ k, mine v k → ¬ fam hs' k
def mine2 (v : Value) (hs : List Value) (k : Nat) : Prop := mine v k ∨ fam hs k

variable {base : Nat} {F F' : Nat → Prop} {w w' : World} {T e : TypeId} {r : Row} {v : Value} {hs hs' : List Value} {ll : List (List r.den)} {g : Nat → Prop}

theorem Fam.lt (h : Fam base F w e r hs ll) : ∀ k, fam hs k → k < w.heap.size := fun k ⟨i, hi, hk⟩ => (h.2.1 i hi (h.1 ▸ hi)).lt k hk
theorem Fam.ge (h : Fam base F w e r hs ll) : ∀ k, fam hs k → base ≤ k := fun k ⟨i, hi, hk⟩ => (h.2.1 i hi (h.1 ▸ hi)).ge k hk
theorem Fam.no (h : Fam base F w e r hs ll) : ∀ k, fam hs k → ¬ F k := fun k ⟨i, hi, hk⟩ => (h.2.1 i hi (h.1 ▸ hi)).no k hk
theorem Fam.st (h : Fam base F w e r hs ll) (hF : ∀ b, F b → b < w.heap.size) (hst : St w F w' F') : Fam base F' w' e r hs ll := ⟨h.1, fun i hi hi' => (h.2.1 i hi hi').st hF hst, h.2.2⟩
theorem Fam.ext (h : Fam base F w e r hs ll) (hF : ∀ b, F b → b < w.heap.size) (he : Ext g w w') (hg : ∀ k, g k → ¬ F k) (hb : ∀ k, g k → ¬ fam hs k) : Fam base F w' e r hs ll :=
  ⟨h.1, fun i hi hi' => (h.2.1 i hi hi').ext hF he hg fun k hk hm => hb k hk ⟨i, hi, hm⟩, h.2.2⟩

theorem Own2.lt (h : Own2 base F w T e r v hs hs' ll) : ∀ k, mine2 v hs' k → k < w.heap.size := fun k hk => hk.elim (h.1.lt k) (h.2.1.lt k)
theorem Own2.ge (h : Own2 base F w T e r v hs hs' ll) : ∀ k, mine2 v hs' k → base ≤ k := fun k hk => hk.elim (h.1.ge k) (h.2.1.ge k)
theorem Own2.no (h : Own2 base F w T e r v hs hs' ll) : ∀ k, mine2 v hs' k → ¬ F k := fun k hk => hk.elim (h.1.no k) (h.2.1.no k)
theorem Own2.st (h : Own2 base F w T e r v hs hs' ll) (hF : ∀ b, F b → b < w.heap.size) (hst : St w F w' F') : Own2 base F' w' T e r v hs hs' ll := ⟨h.1.st hF hst, h.2.1.st hF hst, h.2.2⟩
theorem Own2.ext (h : Own2 base F w T e r v hs hs' ll) (hF : ∀ b, F b → b < w.heap.size) (he : Ext g w w') (hg : ∀ k, g k → ¬ F k) (hb : ∀ k, g k → ¬ mine2 v hs' k) : Own2 base F w' T e r v hs hs' ll :=
  ⟨h.1.ext hF he hg fun k hk hm => hb k hk (.inl hm), h.2.1.ext hF he hg fun k hk hm => hb k hk (.inr hm), h.2.2⟩
theorem Own2.fz {o : Nat → Prop} (h : Own2 base F w T e r v hs hs' ll) (ho : ∀ k, o k → ¬ mine2 v hs' k) : Own2 base (fun b => F b ∨ o b) w T e r v hs hs' ll :=
  ⟨h.1.fz fun k hk hm => ho k hk (.inl hm), ⟨h.2.1.1, fun i hi hi' => (h.2.1.2.1 i hi hi').fz fun k hk hm => ho k hk (.inr ⟨i, hi, hm⟩), h.2.1.2.2⟩, h.2.2⟩
theorem Own2.freeze (h : Own2 base F w T e r v hs hs ll) : Rep (fun b => F b ∨ mine2 v hs b) w (.slice (.slice r)) [v] ll := by
  obtain ⟨ho, ⟨hl, hf, hd⟩, ha⟩ := h
  obtain ⟨A, cap, hv, h1, h2, h3⟩ := ho.reads
  subst hv
  refine ⟨A, cap, by rw [hl], hl ▸ h1, h2, fun i hi => ?_⟩
  have hi' : i < hs.length := by omega
  obtain ⟨b, off, rfl, es, hel, hc, hr⟩ := h3 i hi'
  obtain ⟨rfl, _⟩ := hr
  refine ⟨b, off, _, rfl, .inr (.inl (by simp [mine, Value.ownBlock])), rfl, hc, ?_⟩
  refine ((hf i hi' hi).freeze).step fun k hk => ⟨?_, rfl⟩
  rcases hk with hk | hk
  · exact .inl hk
  · exact .inr (.inr ⟨i, hi', hk⟩)
theorem Own2.freezeSt {w0 : World} {F0 : Nat → Prop} (hst : St w0 F0 w F) (h : Own2 w0.heap.size F w T e r v hs hs' ll) : St w0 F0 w (fun b => F b ∨ mine2 v hs' b) :=
  ⟨hst.below, fun b hb => .inl (hst.le b hb), fun b hb => hb.elim (hst.new b) fun hm => .inr (h.ge b hm), fun b hb => hb.elim (hst.lt b) (h.lt b)⟩

theorem Own2.idx {i : Int} {y : List r.den} (h : Own2 base F w T e r v hs hs ll) (hy : idx ll i = some y) : ∃ u, idx hs i = some u ∧ Own base F w e r u y ∧ ∀ k, mine u k → fam hs k := by
  obtain ⟨k, rfl, hk, rfl⟩ := idx_some hy
  have hl := h.2.1.1
  have hk' : k < hs.length := by omega
  refine ⟨hs[k], ?_, h.2.1.2.1 k hk' hk, fun q hq => ⟨k, hk', hq⟩⟩
  unfold Go.Proofs.Ytacochphlicngaa.idx
  rw [if_pos (by omega)]
  simp [hk']

theorem Own.hdr {l : List r.den} (h : Own base F w T r v l) : Rep F w .hdr [v] v := by
  obtain ⟨A, cap, hv, _⟩ := h.reads
  exact ⟨rfl, _, _, _, hv⟩

theorem fam_set {u : Value} {i : Nat} (hi : i < hs.length) : ∀ k, fam (hs.set i u) k → fam hs k ∨ mine u k := by
  rintro k ⟨j, hj, hk⟩
  rw [List.getElem_set] at hk
  split at hk
  · exact .inr hk
  · exact .inl ⟨j, by simpa using hj, hk⟩

/-- One of the family is replaced. -/
theorem Fam.put {i : Nat} {u : Value} {l : List r.den} (hi : i < hs.length) (h : Fam base F w e r hs ll) (hF : ∀ b, F b → b < w.heap.size) (he : Ext (mine hs[i]) w w') (hu : Own base F w' e r u l)
    (hn : ∀ k, mine u k → mine hs[i] k ∨ w.heap.size ≤ k) : Fam base F w' e r (hs.set i u) (ll.set i l) := by
  have hil : i < ll.length := h.1 ▸ hi
  have ap : ∀ j (hj : j < hs.length), i ≠ j → ∀ k, mine u k → ¬ mine hs[j] k := by
    intro j hj hne k hk hm
    rcases hn k hk with h' | h'
    · exact h.2.2 i j hi hj hne k h' hm
    · have := (h.2.1 j hj (h.1 ▸ hj)).lt k hm; omega
  refine ⟨by simp [h.1], fun j hj hj' => ?_, fun j m hj hm hne k => ?_⟩
  · simp only [List.length_set] at hj hj'
    by_cases hji : i = j
    · subst hji; simpa using hu
    · rw [List.getElem_set_ne hji, List.getElem_set_ne hji]
      exact (h.2.1 j hj hj').ext hF he (fun k hk => (h.2.1 i hi hil).no k hk) fun k hk => h.2.2 i j hi hj hji k hk
  · simp only [List.length_set] at hj hm
    by_cases hji : i = j
    · subst hji
      rw [List.getElem_set_self, List.getElem_set_ne hne]
      exact ap m hm hne k
    · rw [List.getElem_set_ne hji]
      by_cases hmi : i = m
      · subst hmi
        rw [List.getElem_set_self]
        exact fun h1 h2 => ap j hj hji k h2 h1
      · rw [List.getElem_set_ne hmi]
        exact h.2.2 j m hj hm hne k

section
variable {P : Program} {n : Nat} {ops : Array Oper} {K : (Nat → Value) → World → Prop} {rest : List Oper} {ρ : Nat → Value}
variable {d : Nat} {ty : TypeId} {pos : String} {aft : Array Edge} {x y : Operand} {t : TypeId}

theorem Fam.nils (m : Nat) : Fam base F w e r (List.replicate m (.slice none 0 0)) (List.replicate m []) :=
  ⟨by simp, fun i hi hi' => by simpa using Own.nil base F w e r, fun i j hi hj _ k hk => by simp [mine, Value.ownBlock] at hk⟩

theorem wpS_make2T {m : Int} {ll : List (List r.den)} {k k' : IntKind} (ht : P.underlying t = some (.slice T)) (hi : TI P T .hdr)
    (hx : ev ρ x = .int k m) (hy : ev ρ y = .int k' m) (hm : mkL m ([] : List r.den) = some ll) (hF : ∀ b, F b → b < w.heap.size) (hb : base ≤ w.heap.size) (hd : Nat.blt d n = true)
    (h : ∀ v hs w', St w F w' F → Own2 base F w' T e r v hs hs ll → (∀ k, mine2 v hs k → w.heap.size ≤ k) → wpS P n ops K rest (upd ρ d v) w') : wpS P n ops K (⟨some d, .makeSlice t x y, ty, pos, aft, none⟩ :: rest) ρ w := by
  unfold mkL at hm
  split at hm
  case isFalse => cases hm
  rename_i hr
  obtain rfl := Option.some.inj hm
  have no : ∀ k, ¬ fam (List.replicate m.toNat (Value.slice none 0 0)) k := by
    rintro k ⟨i, hi, hk⟩
    simp [mine, Value.ownBlock] at hk
  refine wpS_makeT (r := .hdr) (l := List.replicate m.toNat (.slice none 0 0)) ht hi hx hy (by unfold mkL; rw [if_pos hr]) hF hb hd fun v w' hst ho hn => h v _ w' hst ⟨ho, Fam.nils _, fun k _ hk => no k hk⟩ fun k hk => hk.elim (hn k) fun hk => absurd hk (no k)

/-- The address of an element. -/
theorem wpS_elem2T {k : IntKind} {i : Int} {v : Value} {l : List r.den} (ht : P.underlying t = some (.slice T)) (hi : TI P T .hdr)
    (hx : ev ρ x = v) (hy : ev ρ y = .int k i) (hv : Own2 base F w T e r v hs hs' ll) (hlen : hs.length = ll.length) (hidx : idx ll i = some l) (hd : Nat.blt d n = true)
    (h : ∀ g q, mine v g → i = (q : Nat) → wpS P n ops K rest (upd ρ d (.pointer (some ⟨g, q, none⟩))) w) : wpS P n ops K (⟨some d, .indexAddr t x y, ty, pos, aft, none⟩ :: rest) ρ w := by
  obtain ⟨q, rfl, hq, rfl⟩ := idx_some hidx
  have hu : idx hs (q : Int) = some hs[q] := by
    unfold Go.Proofs.Ytacochphlicngaa.idx
    rw [if_pos (by omega)]
    simp [show q < hs.length by omega]
  refine wpS_elemT ht hi hx hy hv.1 hu hd fun g q' h1 h2 => ?_
  have := h g q' h1 h2
  simpa [Row.size] using this

theorem idx_hs {i : Int} {l : List r.den} (hlen : hs.length = ll.length) (hidx : idx ll i = some l) : ∃ q : Nat, ∃ hq : q < hs.length, i = (q : Int) ∧ idx hs i = some hs[q] ∧ ∃ hq' : q < ll.length, ll[q] = l := by
  obtain ⟨q, rfl, hq, rfl⟩ := idx_some hidx
  refine ⟨q, by omega, rfl, ?_, hq, rfl⟩
  unfold Go.Proofs.Ytacochphlicngaa.idx
  rw [if_pos (by omega)]
  simp [show q < hs.length by omega]

theorem run_load1' {D : TypeDesc} {b off : Nat} {u : Value} (hu : P.underlying t = some D) (hD : aggD D = false) (hx : ev ρ x = .pointer (some ⟨b, off, none⟩)) (hat : At F w .hdr b off u) : w.cell? ⟨b, off, none⟩ = some u := by
  obtain ⟨es, hl, hc, rfl, _⟩ := hat
  have := hc 0 u rfl
  simpa using this

/-- What stands at an element. -/
theorem wpS_load2T {D : TypeDesc} {g q : Nat} {i : Int} {v : Value} {l : List r.den} (hu : P.underlying t = some D) (hD : aggD D = false) (hx : ev ρ x = .pointer (some ⟨g, q, none⟩)) (hv : Own2 base F w T e r v hs hs ll) (hg : mine v g) (hq : i = (q : Nat))
    (hidx : idx ll i = some l) (hd : Nat.blt d n = true) (h : ∀ u, idx hs i = some u → Own base F w e r u l → (∀ k, mine u k → fam hs k) → wpS P n ops K rest (upd ρ d u) w) :
    wpS P n ops K (⟨some d, .load t x, ty, pos, aft, none⟩ :: rest) ρ w := by
  obtain ⟨u, h1, h2, h3⟩ := hv.idx hidx
  have hat := hv.1.at hg hq h1
  rw [show q * Row.size .hdr = q by simp [Row.size]] at hat
  exact wpS_eff _ _ (run_load1 hu hD hx (run_load1' (P := P) hu hD hx hat)) hd (h u h1 h2 h3)

/-- One of the family is appended to. -/
theorem wpS_append2T {i : Int} {u z : Value} {v : Value} {l m out : List r.den} (ht : P.underlying t = some (.slice e)) (hi : TI P e r)
    (hx : ev ρ x = u) (hy : ev ρ y = z) (hv : Own2 base F w T e r v hs hs ll) (hu : idx hs i = some u) (hidx : idx ll i = some l) (hz : Reads F w r z m) (hm : appA l m = some out) (hF : ∀ b, F b → b < w.heap.size) (hb : base ≤ w.heap.size) (hd : Nat.blt d n = true)
    (h : ∀ v' w', Ext (mine2 v hs) w w' → Own2 base F w' T e r v hs (setL hs i v') (setL ll i out) → Rep F w' .hdr [v'] v' → (∀ k, mine2 v (setL hs i v') k → mine2 v hs k ∨ w.heap.size ≤ k) → wpS P n ops K rest (upd ρ d v') w') :
    wpS P n ops K (⟨some d, .call { callee := .builtin .append, args := #[x, y], argTypes := #[t, t] }, ty, pos, aft, none⟩ :: rest) ρ w := by
  obtain ⟨q, rfl, hq, rfl⟩ := idx_some hidx
  have hl := hv.2.1.1
  have hq' : q < hs.length := by omega
  have hu' : idx hs (q : Int) = some hs[q] := by
    unfold Go.Proofs.Ytacochphlicngaa.idx
    rw [if_pos (by omega)]
    simp [hq']
  obtain rfl : u = hs[q] := Option.some.inj (hu.symm.trans hu')
  refine wpS_appendT ht hi hx hy (hv.2.1.2.1 q hq' hq) hz hm hF hb hd fun v' w' he ho hn => ?_
  have hfam : Fam base F w' e r (hs.set q v') (ll.set q out) := hv.2.1.put hq' hF he ho hn
  have hsub : ∀ k, mine hs[q] k → fam hs k := fun k hk => ⟨q, hq', hk⟩
  refine h v' w' ⟨he.os, he.tape, he.output, he.size, fun k hk hn' => he.block k hk fun hm => hn' (.inr (hsub k hm))⟩ ?_ ho.hdr ?_
  · unfold setL
    rw [Int.toNat_natCast]
    refine ⟨hv.1.ext hF he (fun k hk => hv.2.1.no k (hsub k hk)) (fun k hk hm => hv.2.2 k hm (hsub k hk)), hfam, fun k hk hf => ?_⟩
    rcases fam_set hq' k hf with h' | h'
    · exact hv.2.2 k hk h'
    · rcases hn k h' with h' | h'
      · exact hv.2.2 k hk (hsub k h')
      · have := hv.1.lt k hk; omega
  · unfold setL
    rw [Int.toNat_natCast]
    rintro k (hk | hk)
    · exact .inl (.inl hk)
    · rcases fam_set hq' k hk with h' | h'
      · exact .inl (.inr h')
      · rcases hn k h' with h' | h'
        · exact .inl (.inr (hsub k h'))
        · exact .inr h'

/-- What was appended is put back. -/
theorem wpS_store2T {g q : Nat} {i : Int} {v u : Value} {l : List r.den} (hi : TI P t .hdr) (hx : ev ρ x = .pointer (some ⟨g, q, none⟩)) (hy : ev ρ y = u) (hr : Rep F w .hdr [u] u)
    (hv : Own2 base F w T e r v hs (setL hs i u) ll) (hg : mine v g) (hq : i = (q : Nat)) (hidx : idx ll i = some l) (hF : ∀ b, F b → b < w.heap.size) (hT : t = T)
    (h : ∀ w', Ext (mine2 v (setL hs i u)) w w' → Own2 base F w' T e r v (setL hs i u) (setL hs i u) ll → wpS P n ops K rest ρ w') : wpS P n ops K (⟨none, .store t x y, ty, pos, aft, none⟩ :: rest) ρ w := by
  subst hT hq
  have hl : q < hs.length := by
    obtain ⟨q', hq', hlt, _⟩ := idx_some hidx
    have := hv.2.1.1
    simp only [setL, List.length_set] at this
    omega
  have hu : idx hs (q : Int) = some hs[q] := by
    unfold Go.Proofs.Ytacochphlicngaa.idx
    rw [if_pos (by omega)]
    simp [hl]
  have hc : u.cells.toList = [u] := by obtain ⟨_, A, m, c, rfl⟩ := hr; rfl
  refine wpS_store_elemT (r := .hdr) (.here) hi hx (by simp [Path.off, Row.size]) hy hc hr hv.1 hg rfl hu hF fun w' he ho => ?_
  refine h w' ⟨he.os, he.tape, he.output, he.size, fun k hk hn' => he.block k hk fun hm => hn' (.inl hm)⟩ ⟨ho, hv.2.1.ext hF he (fun k hk => hv.1.no k hk) (fun k hk => hv.2.2 k hk), hv.2.2⟩
end
end Go.Proofs.Ytacochphlicngaa
