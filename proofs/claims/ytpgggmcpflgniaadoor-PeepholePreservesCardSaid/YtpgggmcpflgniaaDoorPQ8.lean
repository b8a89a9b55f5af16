/- Unreachable instructions removed: what RemoveUnreachable answers (plain laws). -/
import Derived.Test.YtpgggmcpflgniaaDoorPQ7
namespace Go.Proofs.YtpgggmcpflgniaaDoor
open Go Go.RowKit
set_option maxRecDepth 100000
namespace L

def gb (l : List Bool) (k : Nat) : Bool := l.getD k false
theorem gb_set {l : List Bool} {t : Nat} (ht : t < l.length) (d : Bool) (k : Nat) : gb (l.set t d) k = if k = t then d else gb l k := by
  unfold gb List.getD
  by_cases h : k = t
  · subst h
    rw [if_pos rfl, List.getElem?_set_self ht]; rfl
  · rw [if_neg h, List.getElem?_set_ne (by omega)]
theorem gb_idx {l : List Bool} {t : Nat} (ht : t < l.length) : idx l (t : Int) = some (gb l t) := by
  rw [idx_nat ht]
  simp [gb, List.getD, ht]
theorem gb_rep (n k : Nat) : gb (List.replicate n false) k = false := by
  unfold gb List.getD
  by_cases h : k < n
  · simp [h]
  · rw [List.getElem?_eq_none (by simp; omega)]; rfl
theorem gb_lt {l : List Bool} {k : Nat} (h : gb l k = true) : k < l.length := by
  rcases Nat.lt_or_ge k l.length with h' | h'
  · exact h'
  · unfold gb List.getD at h
    rw [List.getElem?_eq_none h'] at h
    cases h

/-- What may be reached. -/
structure RL (code : List Ty) (F : List Int) (l : List Bool) : Prop where
  len : l.length = code.length + 1
  zero : gb l 0 = true
  sound : ∀ i, gb l i = true → 0 ≤ gd F i
  step : ∀ (i : Nat) n, code[i]? = some n → gb l i = true → ((n.1 : Int) ≠ 51 → gb l (i + 1) = true) ∧ (jop n → ∀ t : Nat, (n.2 : Int) = t → gb l t = true)

theorem reachable_wp {code : List Ty} {F : List Int} (f : Fits code F) : Wp (M.peephole_reachable big code) fun r => ∃ l, RL code F l ∧ r = l.take code.length := by
  have hle := f.le
  have hpos := f.pos
  unfold M.peephole_reachable
  rw [wrap_succ (by omega)]
  have hmk : mkL ((code.length + 1 : Nat) : Int) false = some (List.replicate (code.length + 1) false) := by
    unfold mkL
    rw [if_pos (by omega), Int.toNat_natCast]
  rw [hmk]
  simp only [Option.bind_some]
  have e1 : idx (List.replicate (code.length + 1) false) 0 = some false := by rw [List.replicate_succ]; rfl
  rw [e1]
  simp only [Option.bind_some]
  have es : setL (List.replicate (code.length + 1) false) (0 : Int) true = (List.replicate (code.length + 1) false).set 0 true := rfl
  rw [es]
  have g0 : ∀ k, gb ((List.replicate (code.length + 1) false).set 0 true) k = if k = 0 then true else false := fun k => by
    rw [gb_set (by simp), gb_rep]
  refine Wp.seq (RL code F) ?_ fun l hl => ?_
  · refine Wp.loop (fun s : Int × List Bool => ∃ i : Nat, s.1 = i ∧ i ≤ code.length ∧ s.2.length = code.length + 1 ∧ gb s.2 0 = true ∧ (∀ j, gb s.2 j = true → 0 ≤ gd F j) ∧ ∀ (j : Nat) n, j < i → code[j]? = some n → gb s.2 j = true → ((n.1 : Int) ≠ 51 → gb s.2 (j + 1) = true) ∧ (jop n → ∀ t : Nat, (n.2 : Int) = t → gb s.2 t = true)) (fun s => (code.length - s.1).toNat) ⟨0, rfl, Nat.zero_le _, by simp, by rw [g0]; rfl, fun j hj => ?_, fun j n h => by omega⟩ (by unfold big; simp only; omega) ?_
    · simp only [g0] at hj
      split at hj
      · rename_i e; subst e; rw [f.first]; decide
      · cases hj
    rintro ⟨_, l⟩ ⟨i, rfl, hi, hll, hz, hs, hst⟩
    dsimp only at hll hz hs hst ⊢
    refine Wp.dec (fun h => ?_) fun h => .some ⟨hll, hz, hs, fun j n hn => hst j n ?_ hn⟩
    case refine_2 =>
      have := (List.getElem?_eq_some_iff.1 hn).1
      omega
    have hi' : i < code.length := by omega
    have hge := List.getElem?_eq_getElem hi'
    rw [idx_nat hi', gb_idx (by omega)]
    generalize code[i] = n at hge ⊢
    simp only [Option.bind_some, pisJump_eq]
    -- set true where it is known to be reached
    have mono : ∀ {a b : List Bool} {t : Nat}, t < a.length → 0 ≤ gd F t → b = a.set t true → (∀ j, gb a j = true → 0 ≤ gd F j) → (∀ j, gb b j = true → 0 ≤ gd F j) ∧ (∀ j, gb a j = true → gb b j = true) ∧ (∀ j, j ≠ t → gb b j = gb a j) ∧ gb b t = true := by
      intro a b t ht h0 e hs
      subst e
      refine ⟨fun j hj => ?_, fun j hj => ?_, fun j hj => ?_, ?_⟩
      · rw [gb_set ht] at hj
        split at hj
        · rename_i e; rw [e]; exact h0
        · exact hs j hj
      · rw [gb_set ht]; split
        · rfl
        · exact hj
      · rw [gb_set ht, if_neg hj]
      · rw [gb_set ht, if_pos rfl]
    refine Wp.seq (fun o => o.length = code.length + 1 ∧ (∀ j, gb o j = true → 0 ≤ gd F j) ∧ (∀ j, gb l j = true → gb o j = true) ∧ (∀ j, j ≤ i → gb o j = gb l j) ∧ (gb l i = true → ((n.1 : Int) ≠ 51 → gb o (i + 1) = true) ∧ (jop n → ∀ t : Nat, (n.2 : Int) = t → gb o t = true))) ?_ fun o ho => .some ?_
    · by_cases hg : gb l i = true
      · rw [if_neg (by simp [hg])]
        have h0 := hs i hg
        obtain ⟨sp, _⟩ := f.at hge h0
        -- the next one
        have hnx : (n.1 : Int) ≠ 51 → 0 ≤ gd F (i + 1) := by
          intro h
          rcases sp with ⟨c, _⟩ | ⟨_, c2, c3, _⟩ | ⟨_, _, c3, c4, c5, _⟩
          · exact absurd c h
          · omega
          · omega
        have htg : jop n → ∃ t : Nat, (n.2 : Int) = t ∧ i < t ∧ t ≤ code.length ∧ 0 ≤ gd F t := by
          intro h
          rcases sp with ⟨_, t, c2, c3, c4, c5⟩ | ⟨_, c2, c3, t, c4, c5, c6, c7⟩ | ⟨c1, c2, _⟩
          · exact ⟨t, c2, c3, c4, by omega⟩
          · exact ⟨t, c4, c5, c6, by rw [c7]; split <;> omega⟩
          · exact (jop_cases h).elim (fun e => absurd e c1) (fun e => absurd e c2)
        refine Wp.seq (fun o => o.length = code.length + 1 ∧ (∀ j, gb o j = true → 0 ≤ gd F j) ∧ (∀ j, gb l j = true → gb o j = true) ∧ (∀ j, j ≤ i → gb o j = gb l j) ∧ ((n.1 : Int) ≠ 51 → gb o (i + 1) = true)) ?_ fun o ho => ?_
        · refine Wp.ndec (fun h51 => ?_) fun h51 => .some ⟨hll, hs, fun _ h => h, fun _ _ => rfl, fun h => absurd h51 h⟩
          rw [wrap_succ (by omega), gb_idx (by omega)]
          simp only [Option.bind_some]
          obtain ⟨m1, m2, m3, m4⟩ := mono (a := l) (t := i + 1) (by omega) (hnx h51) rfl hs
          refine .some ⟨by simp [setL, hll], m1, m2, fun j hj => m3 j (by omega), fun _ => m4⟩
        obtain ⟨o1, o2, o3, o4, o5⟩ := ho
        refine Wp.dec (fun hj => ?_) fun hj => .some ⟨o1, o2, o3, o4, fun _ => ⟨o5, fun h => absurd h hj⟩⟩
        obtain ⟨t, t1, t2, t3, t4⟩ := htg hj
        rw [show (n.2 : Int) = t from t1, gb_idx (by omega)]
        simp only [Option.bind_some]
        obtain ⟨m1, m2, m3, m4⟩ := mono (a := o) (t := t) (by omega) t4 rfl o2
        refine .some ⟨by simp [setL, o1], m1, fun j h => m2 j (o3 j h), fun j hj => by rw [← o4 j hj]; exact m3 j (by omega), fun _ => ⟨fun h => m2 _ (o5 h), fun _ u hu => ?_⟩⟩
        have : u = t := by have h : (t : Int) = u := hu; omega
        subst this
        exact m4
      · rw [if_pos (by simpa using hg)]
        exact .some ⟨hll, hs, fun _ h => h, fun _ _ => rfl, fun h => absurd h hg⟩
    · obtain ⟨o1, o2, o3, o4, o5⟩ := ho
      rw [wrap_succ (by omega)]
      refine ⟨⟨i + 1, rfl, hi', o1, o3 0 hz, o2, fun j m hj hm hgj => ?_⟩, by simp only; omega⟩
      by_cases e : j = i
      · subst e
        rw [hge] at hm
        obtain rfl := Option.some.inj hm
        rw [o4 j (Nat.le_refl _)] at hgj
        exact o5 hgj
      · rw [o4 j (by omega)] at hgj
        obtain ⟨a1, a2⟩ := hst j m (by omega) hm hgj
        exact ⟨fun h => o3 _ (a1 h), fun h t ht => o3 _ (a2 h t ht)⟩
  · rw [cutA_zero (by rw [hl.len]; omega)]
    simp only [Option.bind_some]
    exact .some ⟨l, hl, rfl⟩

/-- Jumps to the next instruction. -/
def nextJ (n : Ty) (i : Nat) : Prop := (n.1 : Int) = 51 ∧ (n.2 : Int) = ((i + 1 : Nat) : Int)
instance (n : Ty) (i : Nat) : Decidable (nextJ n i) := by unfold nextJ; infer_instance
/-- What is kept. -/
structure KL (code : List Ty) (l K : List Bool) : Prop where
  len : K.length = code.length
  ok : ∀ (i : Nat) n, code[i]? = some n → (gb K i = true ↔ gb l i = true ∧ ¬ nextJ n i)

/-- Where the elements that are kept come to stand. -/
def ct (K : List Bool) : Nat → Nat
  | 0 => 0
  | i + 1 => ct K i + if gb K i = true then 1 else 0
def kp {α : Type} (g : Nat → α) (K : List Bool) : Nat → List α
  | 0 => []
  | i + 1 => kp g K i ++ if gb K i = true then [g i] else []
theorem kp_len {α : Type} (g : Nat → α) (K : List Bool) : ∀ i, (kp g K i).length = ct K i
  | 0 => rfl
  | i + 1 => by
    rw [kp, ct, List.length_append, kp_len g K i]
    split <;> rfl
theorem ct_mono (K : List Bool) {i j : Nat} (h : i ≤ j) : ct K i ≤ ct K j := by
  induction j with
  | zero => obtain rfl : i = 0 := by omega
            exact Nat.le_refl _
  | succ j ih =>
    by_cases e : i = j + 1
    · rw [e]; exact Nat.le_refl _
    · have := ih (by omega)
      rw [ct]
      omega
theorem ct_le (K : List Bool) : ∀ i, ct K i ≤ i
  | 0 => Nat.le_refl _
  | i + 1 => by
    have := ct_le K i
    rw [ct]
    split <;> omega
theorem kp_get {α : Type} (g : Nat → α) (K : List Bool) {i : Nat} (hi : gb K i = true) : ∀ j, i < j → (kp g K j)[ct K i]? = some (g i) := by
  intro j
  induction j with
  | zero => intro h; omega
  | succ j ih =>
    intro h
    rw [kp]
    by_cases e : i = j
    · subst e
      rw [if_pos hi, List.getElem?_append_right (by rw [kp_len]; exact Nat.le_refl _), kp_len, Nat.sub_self]
      rfl
    · have hlt : ct K i < (kp g K j).length := by
        rw [kp_len]
        have h1 : ct K (i + 1) ≤ ct K j := ct_mono K (by omega)
        rw [ct, if_pos hi] at h1
        omega
      rw [List.getElem?_append_left hlt]
      exact ih (by omega)
theorem ct_inv (K : List Bool) {q : Nat} : ∀ j, q < ct K j → ∃ i, i < j ∧ gb K i = true ∧ ct K i = q := by
  intro j
  induction j with
  | zero => intro h; simp [ct] at h
  | succ j ih =>
    intro h
    by_cases hq : q < ct K j
    · obtain ⟨i, h1, h2, h3⟩ := ih hq
      exact ⟨i, by omega, h2, h3⟩
    · rw [ct] at h
      by_cases hk : gb K j = true
      · rw [if_pos hk] at h
        exact ⟨j, by omega, hk, by omega⟩
      · rw [if_neg hk] at h
        omega

def rj (K : List Bool) (n : Ty) : Ty := if jop n then ((n.1, ((ct K (n.2 : Int).toNat : Nat) : Int)) : Int × Int) else n
def rem (code : List Ty) (K : List Bool) : List Ty := (kp (fun i => code.getD i ((0, 0) : Int × Int)) K code.length).map (rj K)

theorem rj_fst (K : List Bool) (n : Ty) : ((rj K n).1 : Int) = n.1 := by
  unfold rj
  split <;> rfl
theorem rj_non {K : List Bool} {n : Ty} (h : ¬ jop n) : rj K n = n := by
  unfold rj
  rw [if_neg h]

theorem removeOthers_wp {code : List Ty} {K : List Bool} (hl : code.length ≤ 1000) (hK : K.length = code.length) (hj : ∀ (i : Nat) n, code[i]? = some n → gb K i = true → jop n → ∃ t : Nat, (n.2 : Int) = t ∧ t ≤ code.length) : Wp (M.peephole_removeOthers big code K) fun r => r = rem code K := by
  unfold M.peephole_removeOthers
  rw [wrap_succ (by omega)]
  have hmk : mkL ((code.length + 1 : Nat) : Int) (0 : Int) = some (List.replicate (code.length + 1) 0) := by
    unfold mkL
    rw [if_pos (by omega), Int.toNat_natCast]
  rw [hmk]
  simp only [Option.bind_some]
  refine Wp.seq (fun j => j.1.length = code.length + 1 ∧ (∀ t : Nat, t < code.length → j.1[t]? = some (((ct K t : Nat) : Int))) ∧ j.2 = kp (fun i => code.getD i ((0, 0) : Int × Int)) K code.length) ?_ fun j hjj => ?_
  · refine Wp.loop (fun s : Int × List Int × List Ty => ∃ i : Nat, s.1 = i ∧ i ≤ code.length ∧ s.2.1.length = code.length + 1 ∧ (∀ t : Nat, t < i → s.2.1[t]? = some (((ct K t : Nat) : Int))) ∧ s.2.2 = kp (fun i => code.getD i ((0, 0) : Int × Int)) K i) (fun s => (code.length - s.1).toNat) ⟨0, rfl, Nat.zero_le _, by simp, fun t h => by omega, rfl⟩ (by unfold big; simp only; omega) ?_
    rintro ⟨_, ps, _⟩ ⟨i, rfl, hi, hpl, hp, rfl⟩
    dsimp only at hpl hp ⊢
    refine Wp.dec (fun h => ?_) fun h => .some ?_
    · have hi' : i < code.length := by omega
      rw [idx_nat hi', idx_nat (show i < ps.length by omega), gb_idx (by omega)]
      simp only [Option.bind_some]
      have hgd : code.getD i ((0, 0) : Int × Int) = code[i] := by simp only [List.getD, hi', List.getElem?_eq_getElem, Option.getD_some]
      have hkl := kp_len (fun i => code.getD i ((0, 0) : Int × Int)) K i
      have hcl := ct_le K i
      refine Wp.seq (fun o => o = (ps.set i (((ct K i : Nat) : Int)), kp (fun i => code.getD i ((0, 0) : Int × Int)) K (i + 1))) ?_ fun o ho => .some ?_
      · by_cases hg : gb K i = true
        · rw [if_pos hg, appA_some (by rw [hkl]; simp; omega)]
          simp only [Option.bind_some]
          refine .some ?_
          rw [kp, if_pos hg, hgd, hkl]
          rfl
        · rw [if_neg hg]
          refine .some ?_
          rw [kp, if_neg hg, List.append_nil, hkl]
          rfl
      · subst ho
        rw [wrap_succ (by omega)]
        refine ⟨⟨i + 1, rfl, hi', by simp [hpl], fun t ht => ?_, rfl⟩, by simp only; omega⟩
        show (ps.set i _)[t]? = _
        by_cases e : t = i
        · subst e
          rw [List.getElem?_set_self (by omega)]
        · rw [List.getElem?_set_ne (by omega)]
          exact hp t (by omega)
    · obtain rfl : i = code.length := by omega
      exact ⟨hpl, hp, rfl⟩
  · obtain ⟨ps, res⟩ := j
    obtain ⟨p1, p2, rfl⟩ := hjj
    dsimp only at p1 p2 ⊢
    rw [idx_nat (show code.length < ps.length by omega)]
    simp only [Option.bind_some]
    have hcl := ct_le K code.length
    have hkl := kp_len (fun i => code.getD i ((0, 0) : Int × Int)) K code.length
    have hps : ∀ t : Nat, t ≤ code.length → idx (setL ps (code.length : Int) (((kp (fun i => code.getD i ((0, 0) : Int × Int)) K code.length).length : Nat) : Int)) (t : Int) = some (((ct K t : Nat) : Int)) := by
      intro t ht
      have hlen : t < (setL ps (code.length : Int) (((kp (fun i => code.getD i ((0, 0) : Int × Int)) K code.length).length : Nat) : Int)).length := by simp [setL]; omega
      rw [idx_nat hlen]
      have e : (setL ps (code.length : Int) (((kp (fun i => code.getD i ((0, 0) : Int × Int)) K code.length).length : Nat) : Int))[t]? = some (((ct K t : Nat) : Int)) := by
        unfold setL
        rw [Int.toNat_natCast, hkl]
        by_cases e : t = code.length
        · subst e; rw [List.getElem?_set_self (by omega)]
        · rw [List.getElem?_set_ne (by omega)]; exact p2 t (by omega)
      rw [List.getElem?_eq_getElem hlen] at e
      exact e
    unfold rem
    refine Loop_map (by omega) (fun q hq l hll hlq => ?_) fun l hll => ?_
    · have hq2 : q < l.length := by omega
      have hqc : q < ct K code.length := by omega
      obtain ⟨i, i1, i2, i3⟩ := ct_inv K _ hqc
      have hgd : code.getD i ((0, 0) : Int × Int) = code[i] := by simp only [List.getD, i1, List.getElem?_eq_getElem, Option.getD_some]
      have hx : (kp (fun i => code.getD i ((0, 0) : Int × Int)) K code.length)[q] = code[i] := by
        have := kp_get (fun i => code.getD i ((0, 0) : Int × Int)) K i2 code.length i1
        rw [i3, List.getElem?_eq_getElem hq, hgd] at this
        exact Option.some.inj this
      have hge := List.getElem?_eq_getElem i1
      rw [hx] at hlq ⊢
      generalize code[i] = x at hlq hge ⊢
      dsimp only
      rw [idx_nat hq2, hlq]
      simp only [Option.bind_some, pisJump_eq]
      refine Wp.dec (fun _ => ?_) fun h => by omega
      refine Wp.seq (fun o => o = l.set q (rj K x)) ?_ fun o ho => .some ?_
      · refine Wp.dec (fun hjx => ?_) fun hjx => .some ?_
        · obtain ⟨t, t1, t2⟩ := hj i x hge i2 hjx
          rw [show (x.2 : Int) = t from t1, hps t t2]
          simp only [Option.bind_some]
          refine .some ?_
          unfold rj
          rw [if_pos (show jop x from hjx), t1]
          simp [setL]
        · rw [rj_non hjx, ← hlq]; simp
      · rw [ho, wrap_succ (by omega)]
    · dsimp only
      exact Wp.dec (fun h => by omega) fun _ => .some rfl

theorem contains_wp {K : List Bool} (hl : K.length ≤ 1000) : Wp (M.slices_Contains_bool_bool big K false) fun b => (b = true → ∃ i, i < K.length ∧ gb K i = false) := by
  unfold M.slices_Contains_bool_bool M.slices_Index_bool_bool
  refine Wp.seq (fun r : Int => 0 ≤ r → ∃ i, i < K.length ∧ gb K i = false) ?_ fun r hr => .some fun h => hr (by simpa using h)
  refine Wp.loop (fun s : Int => ∃ i : Nat, s = i ∧ i ≤ K.length) (fun s => (K.length - s).toNat) ⟨0, rfl, Nat.zero_le _⟩ (by unfold big; omega) ?_
  rintro _ ⟨i, rfl, hi⟩
  refine Wp.dec (fun h => ?_) fun h => .some fun h => absurd h (by decide)
  have hi' : i < K.length := by omega
  rw [gb_idx hi']
  simp only [Option.bind_some]
  refine Wp.dec (fun h1 => .some fun _ => ⟨i, hi', h1.symm⟩) fun h1 => .some ?_
  rw [wrap_succ (by omega)]
  exact ⟨⟨i + 1, rfl, hi'⟩, by simp only; omega⟩

theorem rem_same {code : List Ty} {F : List Int} {l K : List Bool} (f : Fits code F) (hw : ∀ n ∈ code, WF rNode n) (r : RL code F l) (k : KL code l K) : Same code (rem code K) ∧ (rem code K).length = ct K code.length := by
  have hlen : (rem code K).length = ct K code.length := by unfold rem; rw [List.length_map, kp_len]
  have hcl := ct_le K code.length
  have hle := f.le
  refine ⟨?_, hlen⟩
  -- the depths of what is kept
  have gF : ∀ i, gb K i = true → i < code.length → gd (kp (fun i => gd F i) K code.length ++ [1]) (ct K i) = gd F i := by
    intro i hi hlt
    have := kp_get (fun i => gd F i) K hi code.length hlt
    have hl2 : ct K i < (kp (fun i => gd F i) K code.length).length := (List.getElem?_eq_some_iff.1 this).1
    rw [gd_get, List.getElem?_append_left hl2, this]
    rfl
  have gL : gd (kp (fun i => gd F i) K code.length ++ [1]) (ct K code.length) = 1 := by
    rw [gd_get, List.getElem?_append_right (by rw [kp_len]; exact Nat.le_refl _), kp_len, Nat.sub_self]
    rfl
  have skip : ∀ (p : Nat) n, code[p]? = some n → gb l p = true → ¬ gb K p = true → nextJ n p ∧ gb l (p + 1) = true ∧ gd F (p + 1) = gd F p ∧ ct K (p + 1) = ct K p := by
    intro p n hn hg hk
    have hx : nextJ n p := by
      by_cases h : nextJ n p
      · exact h
      · exact absurd ((k.ok p n hn).2 ⟨hg, h⟩) hk
    refine ⟨hx, (r.step p n hn hg).2 (jop51 hx.1) (p + 1) hx.2, ?_, by rw [ct, if_neg hk]; rfl⟩
    obtain ⟨s, _⟩ := f.at hn (r.sound p hg)
    rcases s with ⟨_, u, u1, u2, u3, u4⟩ | ⟨c, _⟩ | ⟨c, _⟩
    · have : u = p + 1 := nat_eq u1 hx.2
      rw [← this]; exact u4
    · exact absurd hx.1 (cop_ne c)
    · exact absurd hx.1 c
  have dep : ∀ (m p : Nat), code.length - p ≤ m → p ≤ code.length → gb l p = true → gd (kp (fun i => gd F i) K code.length ++ [1]) (ct K p) = gd F p := by
    intro m
    induction m with
    | zero =>
      intro p hm hp hg
      obtain rfl : p = code.length := by omega
      rw [gL, f.last]
    | succ m ih =>
      intro p hm hp hg
      by_cases hlt : p < code.length
      · by_cases hk : gb K p = true
        · exact gF p hk hlt
        · obtain ⟨_, h1, h2, h3⟩ := skip p _ (List.getElem?_eq_getElem hlt) hg hk
          rw [← h3, ← h2]
          exact ih (p + 1) (by omega) hlt h1
      · obtain rfl : p = code.length := by omega
        rw [gL, f.last]
  have endL : ∀ (m p : Nat), code.length - p ≤ m → p ≤ code.length → gb l p = true → gb l code.length = true := by
    intro m
    induction m with
    | zero =>
      intro p hm hp hg
      obtain rfl : p = code.length := by omega
      exact hg
    | succ m ih =>
      intro p hm hp hg
      by_cases hlt : p < code.length
      · have hge := List.getElem?_eq_getElem hlt
        obtain ⟨s1, s2⟩ := r.step p _ hge hg
        by_cases h51 : (code[p].1 : Int) = 51
        · obtain ⟨s, _⟩ := f.at hge (r.sound p hg)
          rcases s with ⟨_, u, u1, u2, u3, u4⟩ | ⟨c, _⟩ | ⟨c, _⟩
          · exact ih u (by omega) u3 (s2 (jop51 h51) u u1)
          · exact absurd h51 (cop_ne c)
          · exact absurd h51 c
        · exact ih (p + 1) (by omega) hlt (s1 h51)
      · obtain rfl : p = code.length := by omega
        exact hg
  have hend := endL code.length 0 (by omega) (Nat.zero_le _) r.zero
  have one : ∀ p : Nat, p < code.length → gb K p = true → Go1 code (rem code K) (fun p q => gb l p = true ∧ p ≤ code.length ∧ q = ct K p) p (ct K p) := by
    intro p hp hk
    have hge := List.getElem?_eq_getElem hp
    have hb : (rem code K)[ct K p]? = some (rj K code[p]) := by
      unfold rem
      rw [List.getElem?_map, kp_get _ K hk code.length hp]
      simp only [List.getD, hge, Option.getD_some, Option.map_some]
    have hct : ct K (p + 1) = ct K p + 1 := by rw [ct, if_pos hk]
    generalize code[p] = n at hge hb
    have hg := ((k.ok p n hge).1 hk).1
    obtain ⟨s1, s2⟩ := r.step p n hge hg
    have tgt : ∀ t : Nat, jop n → (n.2 : Int) = t → p < t → t ≤ code.length → ((rj K n).2 : Int) = ((ct K t : Nat) : Int) ∧ ct K p < ct K t ∧ gb l t = true := by
      intro t hj ht hpt htl
      refine ⟨?_, ?_, s2 hj t ht⟩
      · unfold rj
        rw [if_pos hj]
        show ((ct K (n.2 : Int).toNat : Nat) : Int) = _
        rw [ht]; rfl
      · have := ct_mono K (show p + 1 ≤ t by omega)
        omega
    by_cases hj : jop n
    · obtain ⟨s, _⟩ := f.at hge (r.sound p hg)
      rcases s with ⟨c1, t, c2, c3, c4, c5⟩ | ⟨c1, c2, c3, t, c4, c5, c6, c7⟩ | ⟨c1, c2, _⟩
      · obtain ⟨t1, t2, t3⟩ := tgt t hj c2 c3 c4
        exact .jump hge hb c1 ((rj_fst K n).trans c1) c2 t1 t2 ⟨t3, c4, rfl⟩
      · obtain ⟨t1, t2, t3⟩ := tgt t hj c4 c5 c6
        exact .cond hge hb c1 (rj_fst K n) c4 t1 t2 ⟨t3, c6, rfl⟩ ⟨s1 (cop_ne c1), hp, hct.symm⟩
      · exact (jop_cases hj).elim (fun e => absurd e c1) (fun e => absurd e c2)
    · rw [rj_non hj] at hb
      exact .op hge hb hj ⟨s1 (fun h => hj (jop51 h)), hp, hct.symm⟩
  have d0 := dep code.length 0 (by omega) (Nat.zero_le _) r.zero
  rw [f.first] at d0
  have hpos : 0 < ct K code.length := by
    rcases Nat.eq_zero_or_pos (ct K code.length) with h | h
    · rw [h] at gL
      have e : ct K 0 = 0 := rfl
      rw [e, gL] at d0
      cases d0
    · exact h
  have s : Sim code (rem code K) F (kp (fun i => gd F i) K code.length ++ [1]) (fun p q => gb l p = true ∧ p ≤ code.length ∧ q = ct K p) := by
    refine ⟨f, by omega, by omega, by rw [List.length_append, kp_len, hlen]; rfl, fun q => ?_, fun p q h => ?_, fun p q h => ?_, fun q hq h0 => ?_, ⟨r.zero, Nat.zero_le _, rfl⟩, ⟨hend, Nat.le_refl _, hlen⟩⟩
    · rw [gd_get]
      cases hx : (kp (fun i => gd F i) K code.length ++ [1])[q]? with
      | none => decide
      | some z =>
        show -1 ≤ z ∧ z ≤ 12
        have hm := List.mem_of_getElem? hx
        rcases List.mem_append.1 hm with hm | hm
        · obtain ⟨q', hq', rfl⟩ := List.getElem_of_mem hm
          rw [kp_len] at hq'
          obtain ⟨i, i1, i2, i3⟩ := ct_inv K _ hq'
          have := kp_get (fun i => gd F i) K i2 code.length i1
          rw [i3, List.getElem?_eq_getElem (by rw [kp_len]; exact hq')] at this
          rw [Option.some.inj this]
          exact f.bd i
        · rw [List.mem_singleton.1 hm]; decide
    · obtain ⟨a1, a2, rfl⟩ := h
      exact ⟨r.sound p a1, a2, by rw [hlen]; exact ct_mono K a2, dep code.length p (by omega) a2 a1⟩
    · obtain ⟨a1, a2, rfl⟩ := h
      by_cases hp : p = code.length
      · exact .inl ⟨hp, by rw [hlen, hp]⟩
      · have hlt : p < code.length := by omega
        by_cases hk : gb K p = true
        · exact .inr (.inl (one p hlt hk))
        · have hge := List.getElem?_eq_getElem hlt
          obtain ⟨h1, h2, _, h3⟩ := skip p _ hge a1 hk
          exact .inr (.inr ⟨_, p + 1, hge, h1.1, h1.2, h2, hlt, h3.symm⟩)
    · rw [hlen] at hq
      obtain ⟨i, i1, i2, i3⟩ := ct_inv K _ hq
      subst i3
      exact ⟨i, ⟨((k.ok i _ (List.getElem?_eq_getElem i1)).1 i2).1, by omega, rfl⟩, one i i1 i2⟩
  refine s.same (by omega) fun m hm => ?_
  unfold rem at hm
  obtain ⟨y, hy, rfl⟩ := List.mem_map.1 hm
  obtain ⟨q, hq, rfl⟩ := List.getElem_of_mem hy
  have hq' := hq
  rw [kp_len] at hq'
  obtain ⟨i, i1, i2, i3⟩ := ct_inv K _ hq'
  have := kp_get (fun i => code.getD i ((0, 0) : Int × Int)) K i2 code.length i1
  rw [i3, List.getElem?_eq_getElem hq] at this
  have e := Option.some.inj this
  have hgd : code.getD i ((0, 0) : Int × Int) = code[i] := by simp only [List.getD, i1, List.getElem?_eq_getElem, Option.getD_some]
  rw [e, hgd]
  have hwi := hw _ (List.getElem_mem i1)
  unfold rj
  split
  · rename_i hj
    refine ⟨hwi.1, ?_, ?_⟩
    · show (-9223372036854775808 : Int) ≤ ((ct K _ : Nat) : Int); omega
    · show ((ct K (code[i].2 : Int).toNat : Nat) : Int) ≤ (9223372036854775807 : Int)
      by_cases hjt : ∃ t : Nat, (code[i].2 : Int) = t ∧ t ≤ code.length
      · obtain ⟨t, t1, t2⟩ := hjt
        rw [t1, Int.toNat_natCast]
        have := ct_le K t
        omega
      · exfalso
        apply hjt
        have hge := List.getElem?_eq_getElem i1
        obtain ⟨s, _⟩ := f.at hge (r.sound i ((k.ok i _ hge).1 i2).1)
        rcases s with ⟨c1, t, c2, c3, c4, c5⟩ | ⟨c1, c2, c3, t, c4, c5, c6, c7⟩ | ⟨c1, c2, _⟩
        · exact ⟨t, c2, c4⟩
        · exact ⟨t, c4, c6⟩
        · exact (jop_cases hj).elim (fun e => absurd e c1) (fun e => absurd e c2)
  · exact hwi
end L
end Go.Proofs.YtpgggmcpflgniaaDoor
