/- Chapter 51: LawdiffRules (plain law). -/
import Derived.Test.YtacochphlicngaaP51c
namespace Go.Proofs.Ytacochphlicngaa
open Go Go.RowKit
set_option maxRecDepth 100000
namespace L

noncomputable def eqv (s : Sc) (k : Nat) (t : Sc) (n : Nat) : Bool := (M.ref51_equal big s k t n).getD true
noncomputable def ch1 (l : List Sc) (s : Sc) (k : Nat) : List Ch :=
  match s.2.2.2.2[k]? with
  | none => []
  | some r => match cp l s.1 r.1 with
    | none => [(s.1, (r.1, (1 : Int)))]
    | some (t, n) => if eqv s k t n = true then [] else [(s.1, (r.1, (3 : Int)))]
noncomputable def ch2 (l : List Sc) (s : Sc) (k : Nat) : List Ch :=
  match s.2.2.2.2[k]? with
  | none => []
  | some r => match cp l s.1 r.1 with
    | none => [(s.1, (r.1, (2 : Int)))]
    | some _ => []
noncomputable def outS (ch : Sc → Nat → List Ch) (s : Sc) : List Ch := (List.range s.2.2.2.2.length).flatMap (ch s)
noncomputable def outF (ch : Sc → Nat → List Ch) (a : List Sc) (j : Nat) : List Ch :=
  match a[j]? with
  | none => []
  | some s => outS ch s
noncomputable def outL (ch : Sc → Nat → List Ch) (a : List Sc) : List Ch := (List.range a.length).flatMap (outF ch a)

theorem ch1_len (l : List Sc) (s : Sc) (k : Nat) : (ch1 l s k).length ≤ 1 := by
  unfold ch1
  split
  · simp
  · split
    · simp
    · split <;> simp
theorem ch2_len (l : List Sc) (s : Sc) (k : Nat) : (ch2 l s k).length ≤ 1 := by
  unfold ch2
  split
  · simp
  · split <;> simp
theorem flat_len {f : Nat → List Ch} {c : Nat} (hf : ∀ k, (f k).length ≤ c) : (n : Nat) → ((List.range n).flatMap f).length ≤ n * c
  | 0 => by simp
  | n + 1 => by
    rw [List.range_succ, List.flatMap_append, List.length_append]
    have h1 := flat_len hf n
    have h2 := hf n
    have h3 : ([n].flatMap f).length = (f n).length := by simp
    rw [Nat.add_mul]
    omega
theorem outF_len {ch : Sc → Nat → List Ch} (hc : ∀ s k, (ch s k).length ≤ 1) {a : List Sc} (ha : ∀ s ∈ a, s.2.2.2.2.length ≤ 60) (j : Nat) : (outF ch a j).length ≤ 60 := by
  unfold outF
  split
  · simp
  · rename_i s hs
    have := flat_len (hc s) s.2.2.2.2.length
    have := ha s (List.mem_of_getElem? hs)
    unfold outS
    omega

theorem flat_snoc (f : Nat → List Ch) (acc : List Ch) (k : Nat) : acc ++ (List.range (k + 1)).flatMap f = (acc ++ (List.range k).flatMap f) ++ f k := by
  rw [List.range_succ, List.flatMap_append, ← List.append_assoc]
  simp

theorem accW {B : Int × List Ch → Option ((Int × List Ch) ⊕ List Ch)} {m c : Nat} {f : Nat → List Ch} {acc : List Ch} (hf : ∀ k, (f k).length ≤ c) (hm : m * c ≤ 300) (hm' : m ≤ 60) (A : Nat) (hacc : acc.length ≤ A)
    (h : ∀ k d, k < m → d.length ≤ A + 300 → B ((k : Int), d) = some (.inl (((k + 1 : Nat) : Int), d ++ f k))) (he : ∀ d, B ((m : Int), d) = some (.inr d)) : Loop B big (0, acc) = some (acc ++ (List.range m).flatMap f) := by
  refine Loop_eq (fun i => ((i : Int), acc ++ (List.range i).flatMap f)) m _ (by simp) (fun i hi => ?_) (he _) (by unfold big; omega)
  have h1 := flat_len hf i
  have h2 : i * c ≤ m * c := Nat.mul_le_mul_right c (by omega)
  show B ((i : Int), _) = some (.inl (((i + 1 : Nat) : Int), _))
  rw [h i _ hi (by rw [List.length_append]; omega), flat_snoc]
theorem accW3 {D : Type} {d0 : D} {B : D × Int × List Ch → Option ((D × Int × List Ch) ⊕ List Ch)} {m c : Nat} {f : Nat → List Ch} {acc : List Ch} (hf : ∀ k, (f k).length ≤ c) (hm : m * c ≤ 300) (hm' : m ≤ 60) (A : Nat) (hacc : acc.length ≤ A)
    (h : ∀ k d, k < m → d.length ≤ A + 300 → B (d0, (k : Int), d) = some (.inl (d0, ((k + 1 : Nat) : Int), d ++ f k))) (he : ∀ d, B (d0, (m : Int), d) = some (.inr d)) : Loop B big (d0, 0, acc) = some (acc ++ (List.range m).flatMap f) := by
  refine Loop_eq (fun i => (d0, (i : Int), acc ++ (List.range i).flatMap f)) m _ (by simp) (fun i hi => ?_) (he _) (by unfold big; omega)
  have h1 := flat_len hf i
  have h2 : i * c ≤ m * c := Nat.mul_le_mul_right c (by omega)
  show B (d0, (i : Int), _) = some (.inl (d0, ((i + 1 : Nat) : Int), _))
  rw [h i _ hi (by rw [List.length_append]; omega), flat_snoc]

theorem cp_ok {l : List Sc} {sn rn : ByteArray} {t : Sc} {n : Nat} (h : cp l sn rn = some (t, n)) : t ∈ l ∧ n < t.2.2.2.2.length := by
  unfold cp at h
  split at h
  · cases h
  · split at h
    · cases h
    · rename_i s hs
      obtain ⟨n', hn, e⟩ := Option.map_eq_some_iff.1 h
      cases e
      exact ⟨List.mem_of_getElem? hs, (List.findIdx?_eq_some_iff_getElem.1 hn).1⟩

/-- Laws of moderate size. -/
def Mod (a : rLaw.den) : Prop := a.2.2.length ≤ 5 ∧ ∀ s ∈ a.2.2, s.2.2.2.2.length ≤ 60

theorem app1 {d : List Ch} (hd : d.length ≤ 2300) (x : Ch) : appA d [x] = some (d ++ [x]) := appA_some (by simp; omega)

theorem bindE {α β : Type} {m : Option α} {k : α → Option β} {x : α} {r : Option β} (h1 : m = some x) (h2 : k x = r) : m.bind k = r := by rw [h1]; exact h2
theorem rules_agree (s t : Sc) (i j : Nat) (hi : i < s.2.2.2.2.length) (hj : j < t.2.2.2.2.length) (hw : WF rScope s) : M.lawdiff_sameRule big s i t j = some (eqv s i t j) ∧ M.ref51_equal big s i t j = some (eqv s i t j) := by
  obtain ⟨r1, e1, h1⟩ := sameRule_P s t i j hi hj hw
  obtain ⟨r2, e2, h2⟩ := equal_P s t i j hi hj hw
  have : r1 = r2 := by rw [Bool.eq_iff_iff, h1, h2]
  subst this
  have he : eqv s i t j = r1 := by unfold eqv; rw [e2]; rfl
  exact ⟨by rw [e1, he], by rw [e2, he]⟩

theorem len60 {k m : Nat} (h : k < m) (hm : m ≤ 60) : IntKind.i64.wrap ((k : Int) + 1) = ((k + 1 : Nat) : Int) := wrap_succ (by omega)

theorem diffA (a b : rLaw.den) (hwa : WF rLaw a) (hwb : WF rLaw b) (hma : Mod a) (hmb : Mod b) : M.lawdiff_ChangedRules big a b = some (outL (ch1 b.2.2) a.2.2 ++ outL (ch2 a.2.2) b.2.2) := by
  obtain ⟨x1, e1, hx1⟩ := newIndex_wp a hwa
  obtain ⟨x2, e2, hx2⟩ := newIndex_wp b hwb
  have ha5 := hma.1
  have hb5 := hmb.1
  have len1 := flat_len (outF_len (ch := ch1 b.2.2) (ch1_len b.2.2) hma.2) a.2.2.length
  unfold M.lawdiff_ChangedRules
  rw [e1, Option.bind_some, e2, Option.bind_some]
  refine bindE (accW3 (m := a.2.2.length) (c := 60) (f := outF (ch1 b.2.2) a.2.2) (outF_len (ch1_len b.2.2) hma.2) (by omega) (by omega) 0 (by simp) (fun k d hk hd => ?_) (fun d => ?_)) ?_
  · have hs := hwa.2.2.2 _ (List.getElem_mem hk)
    have h60 := hma.2 _ (List.getElem_mem hk)
    rw [if_pos (lt_dec hk)]
    simp only [idx_nat hk, Option.bind_some]
    refine bindE (accW (m := a.2.2[k].2.2.2.2.length) (c := 1) (f := ch1 b.2.2 a.2.2[k]) (ch1_len b.2.2 _) (by omega) h60 1000 (by omega) (fun i e hi he => ?_) (fun e => ?_)) ?_
    · rw [if_pos (lt_dec hi)]
      simp only [idx_nat hi, Option.bind_some]
      rw [counterpart_eq x2 b.2.2 hx2, Option.bind_some]
      have hc : ch1 b.2.2 a.2.2[k] i = match cp b.2.2 a.2.2[k].1 a.2.2[k].2.2.2.2[i].1 with
        | none => [(a.2.2[k].1, (a.2.2[k].2.2.2.2[i].1, (1 : Int)))]
        | some (t, n) => if eqv a.2.2[k] i t n = true then [] else [(a.2.2[k].1, (a.2.2[k].2.2.2.2[i].1, (3 : Int)))] := by
        unfold ch1
        rw [List.getElem?_eq_getElem hi]
      cases hcp : cp b.2.2 a.2.2[k].1 a.2.2[k].2.2.2.2[i].1 with
      | none =>
        rw [hcp] at hc
        rw [hc]
        simp only [cpOut, Bool.not_false, if_true]
        rw [app1 (by omega), Option.bind_some, Option.bind_some, len60 hi h60]
      | some tn =>
        obtain ⟨t, n⟩ := tn
        rw [hcp] at hc
        rw [hc]
        obtain ⟨_, hn⟩ := cp_ok hcp
        have hr : M.lawdiff_sameRule big a.2.2[k] i (t.1, (t.2.1, (t.2.2.1, (t.2.2.2.1, t.2.2.2.2)))) (n : Int) = some (eqv a.2.2[k] i t n) := (rules_agree _ t i n hi hn hs).1
        simp only [cpOut, Bool.not_true, Bool.false_eq_true, if_false, hr, Option.bind_some]
        by_cases hq : eqv a.2.2[k] i t n = true
        · simp only [hq, Bool.not_true, Bool.false_eq_true, if_false, if_true, Option.bind_some, List.append_nil, len60 hi h60]
        · simp only [hq, Bool.not_false, if_true, Bool.false_eq_true, if_false]
          rw [app1 (by omega), Option.bind_some, Option.bind_some, len60 hi h60]
    · rw [if_neg (by simp)]
    · rw [len60 hk (by omega)]
      have : outF (ch1 b.2.2) a.2.2 k = outS (ch1 b.2.2) a.2.2[k] := by unfold outF; rw [List.getElem?_eq_getElem hk]
      rw [this]
      rfl
  · rw [if_neg (by simp)]
  refine accW3 (m := b.2.2.length) (c := 60) (f := outF (ch2 a.2.2) b.2.2) (outF_len (ch2_len a.2.2) hmb.2) (by omega) (by omega) 300 (by rw [List.nil_append]; omega) (fun k d hk hd => ?_) (fun d => ?_)
  · have h60 := hmb.2 _ (List.getElem_mem hk)
    rw [if_pos (lt_dec hk)]
    simp only [idx_nat hk, Option.bind_some]
    refine bindE (accW (m := b.2.2[k].2.2.2.2.length) (c := 1) (f := ch2 a.2.2 b.2.2[k]) (ch2_len a.2.2 _) (by omega) h60 1000 (by omega) (fun i e hi he => ?_) (fun e => ?_)) ?_
    · rw [if_pos (lt_dec hi)]
      simp only [idx_nat hi, Option.bind_some]
      rw [counterpart_eq x1 a.2.2 hx1, Option.bind_some]
      have hc : ch2 a.2.2 b.2.2[k] i = match cp a.2.2 b.2.2[k].1 b.2.2[k].2.2.2.2[i].1 with
        | none => [(b.2.2[k].1, (b.2.2[k].2.2.2.2[i].1, (2 : Int)))]
        | some _ => [] := by
        unfold ch2
        rw [List.getElem?_eq_getElem hi]
      cases hcp : cp a.2.2 b.2.2[k].1 b.2.2[k].2.2.2.2[i].1 with
      | none =>
        rw [hcp] at hc
        rw [hc]
        simp only [cpOut, Bool.not_false, if_true]
        rw [app1 (by omega), Option.bind_some, Option.bind_some, len60 hi h60]
      | some tn =>
        rw [hcp] at hc
        rw [hc]
        simp only [cpOut, Bool.not_true, Bool.false_eq_true, if_false, Option.bind_some, List.append_nil, len60 hi h60]
    · rw [if_neg (by simp)]
    · rw [len60 hk (by omega)]
      have : outF (ch2 a.2.2) b.2.2 k = outS (ch2 a.2.2) b.2.2[k] := by unfold outF; rw [List.getElem?_eq_getElem hk]
      rw [this]
      rfl
  · rw [if_neg (by simp)]

theorem diffB (a b : rLaw.den) (hwa : WF rLaw a) (hwb : WF rLaw b) (hma : Mod a) (hmb : Mod b) : M.ref51_ChangedRules big a b = some (outL (ch1 b.2.2) a.2.2 ++ outL (ch2 a.2.2) b.2.2) := by
  have ha5 := hma.1
  have hb5 := hmb.1
  have len1 := flat_len (outF_len (ch := ch1 b.2.2) (ch1_len b.2.2) hma.2) a.2.2.length
  unfold M.ref51_ChangedRules
  refine bindE (accW (m := a.2.2.length) (c := 60) (f := outF (ch1 b.2.2) a.2.2) (outF_len (ch1_len b.2.2) hma.2) (by omega) (by omega) 0 (by simp) (fun k d hk hd => ?_) (fun d => ?_)) ?_
  · have hs := hwa.2.2.2 _ (List.getElem_mem hk)
    have h60 := hma.2 _ (List.getElem_mem hk)
    rw [if_pos (lt_dec hk)]
    simp only [idx_nat hk, Option.bind_some]
    refine bindE (accW (m := a.2.2[k].2.2.2.2.length) (c := 1) (f := ch1 b.2.2 a.2.2[k]) (ch1_len b.2.2 _) (by omega) h60 1000 (by omega) (fun i e hi he => ?_) (fun e => ?_)) ?_
    · rw [if_pos (lt_dec hi)]
      simp only [idx_nat hi, Option.bind_some]
      rw [Counterpart_eq b hwb, Option.bind_some]
      have hc : ch1 b.2.2 a.2.2[k] i = match cp b.2.2 a.2.2[k].1 a.2.2[k].2.2.2.2[i].1 with
        | none => [(a.2.2[k].1, (a.2.2[k].2.2.2.2[i].1, (1 : Int)))]
        | some (t, n) => if eqv a.2.2[k] i t n = true then [] else [(a.2.2[k].1, (a.2.2[k].2.2.2.2[i].1, (3 : Int)))] := by
        unfold ch1
        rw [List.getElem?_eq_getElem hi]
      cases hcp : cp b.2.2 a.2.2[k].1 a.2.2[k].2.2.2.2[i].1 with
      | none =>
        rw [hcp] at hc
        rw [hc]
        simp only [cpOut, Bool.not_false, if_true]
        rw [app1 (by omega), Option.bind_some, Option.bind_some, len60 hi h60]
      | some tn =>
        obtain ⟨t, n⟩ := tn
        rw [hcp] at hc
        rw [hc]
        obtain ⟨_, hn⟩ := cp_ok hcp
        have hr : M.ref51_equal big a.2.2[k] i (t.1, (t.2.1, (t.2.2.1, (t.2.2.2.1, t.2.2.2.2)))) (n : Int) = some (eqv a.2.2[k] i t n) := (rules_agree _ t i n hi hn hs).2
        simp only [cpOut, Bool.not_true, Bool.false_eq_true, if_false, hr, Option.bind_some]
        by_cases hq : eqv a.2.2[k] i t n = true
        · simp only [hq, Bool.not_true, Bool.false_eq_true, if_false, if_true, Option.bind_some, List.append_nil, len60 hi h60]
        · simp only [hq, Bool.not_false, if_true, Bool.false_eq_true, if_false]
          rw [app1 (by omega), Option.bind_some, Option.bind_some, len60 hi h60]
    · rw [if_neg (by simp)]
    · rw [len60 hk (by omega)]
      have : outF (ch1 b.2.2) a.2.2 k = outS (ch1 b.2.2) a.2.2[k] := by unfold outF; rw [List.getElem?_eq_getElem hk]
      rw [this]
      rfl
  · rw [if_neg (by simp)]
  refine accW (m := b.2.2.length) (c := 60) (f := outF (ch2 a.2.2) b.2.2) (outF_len (ch2_len a.2.2) hmb.2) (by omega) (by omega) 300 (by rw [List.nil_append]; omega) (fun k d hk hd => ?_) (fun d => ?_)
  · have h60 := hmb.2 _ (List.getElem_mem hk)
    rw [if_pos (lt_dec hk)]
    simp only [idx_nat hk, Option.bind_some]
    refine bindE (accW (m := b.2.2[k].2.2.2.2.length) (c := 1) (f := ch2 a.2.2 b.2.2[k]) (ch2_len a.2.2 _) (by omega) h60 1000 (by omega) (fun i e hi he => ?_) (fun e => ?_)) ?_
    · rw [if_pos (lt_dec hi)]
      simp only [idx_nat hi, Option.bind_some]
      rw [Counterpart_eq a hwa, Option.bind_some]
      have hc : ch2 a.2.2 b.2.2[k] i = match cp a.2.2 b.2.2[k].1 b.2.2[k].2.2.2.2[i].1 with
        | none => [(b.2.2[k].1, (b.2.2[k].2.2.2.2[i].1, (2 : Int)))]
        | some _ => [] := by
        unfold ch2
        rw [List.getElem?_eq_getElem hi]
      cases hcp : cp a.2.2 b.2.2[k].1 b.2.2[k].2.2.2.2[i].1 with
      | none =>
        rw [hcp] at hc
        rw [hc]
        simp only [cpOut, Bool.not_false, if_true]
        rw [app1 (by omega), Option.bind_some, Option.bind_some, len60 hi h60]
      | some tn =>
        rw [hcp] at hc
        rw [hc]
        simp only [cpOut, Bool.not_true, Bool.false_eq_true, if_false, Option.bind_some, List.append_nil, len60 hi h60]
    · rw [if_neg (by simp)]
    · rw [len60 hk (by omega)]
      have : outF (ch2 a.2.2) b.2.2 k = outS (ch2 a.2.2) b.2.2[k] := by unfold outF; rw [List.getElem?_eq_getElem hk]
      rw [this]
      rfl
  · rw [if_neg (by simp)]

def StepQJ {C X : Type} (k : Nat) (J : Nat → Prop) (Q : X → Prop) : (C × Int) ⊕ X → Prop
  | .inl s => s.2 = ((k + 1 : Nat) : Int) ∧ J (k + 1)
  | .inr x => Q x
theorem wpForJ {C X : Type} {B : C × Int → Option ((C × Int) ⊕ X)} {m : Nat} {c0 : C} (J : Nat → Prop) {Q : X → Prop} (hm : m ≤ maxLen) (h0 : J 0) (h : ∀ c k, k < m → J k → Wp (B (c, (k : Int))) (StepQJ k J Q)) (he : ∀ c, J m → Wp (B (c, (m : Int))) (EndQ Q)) : Wp (Loop B big (c0, 0)) Q := by
  refine Wp.loop (fun s => ∃ k : Nat, s.2 = k ∧ k ≤ m ∧ J k) (fun s => m - s.2.toNat) ⟨0, rfl, Nat.zero_le _, h0⟩ (by unfold maxLen at hm; unfold big; simp; omega) fun s hs => ?_
  obtain ⟨c, i⟩ := s
  obtain ⟨k, hi, hk, hJ⟩ := hs
  dsimp only at hi
  subst hi
  rcases Nat.lt_or_ge k m with hlt | hge
  · refine (h c k hlt hJ).mono fun r hr => ?_
    cases r with
    | inl s =>
      obtain ⟨c', i'⟩ := s
      obtain ⟨hr, hr2⟩ := hr
      dsimp only at hr
      subst hr
      exact ⟨⟨k + 1, rfl, hlt, hr2⟩, by simp only [Int.toNat_natCast]; omega⟩
    | inr x => exact hr
  · obtain rfl : k = m := by omega
    refine (he c hJ).mono fun r hr => ?_
    cases r with
    | inl s => exact hr.elim
    | inr x => exact hr

theorem smallScope60 (x : rScope.den) (hw : WF rScope x) : Wp (M.same_smallScope big x) fun r => r = true → x.2.2.2.2.length ≤ 60 := by
  unfold M.same_smallScope
  refine Wp.seq (fun j => j = false → x.2.2.2.2.length ≤ 60) ?_ fun j hj => ?_
  · refine Wp.dec (fun _ => .some fun h => by cases h) fun _ => Wp.dec (fun _ => .some fun h => by cases h) fun _ => Wp.dec (fun _ => .some fun h => by cases h) fun _ => .some fun h => ?_
    have := of_decide_eq_false h
    omega
  refine Wp.ite (fun _ => .some fun h => by cases h) fun hj' => ?_
  have h60 := hj (by simpa using hj')
  refine Wp.join (wpFor hw.2.2.1.1 (fun k hk => ?_) ?_)
  · rw [if_pos (lt_dec hk), idx_nat hk, Option.bind_some]
    exact Wp.dec (fun _ => .some fun _ => h60) fun _ => .some (ws hk hw.2.2.1.1)
  rw [if_neg (by simp)]
  refine .some ?_
  show Wp _ _
  refine Wp.join (wpFor hw.2.2.2.1.1 (fun k hk => ?_) ?_)
  · rw [if_pos (lt_dec hk), idx_nat hk, Option.bind_some]
    exact Wp.dec (fun _ => .some fun _ => h60) fun _ => .some (ws hk hw.2.2.2.1.1)
  rw [if_neg (by simp)]
  refine .some ?_
  show Wp _ _
  refine wpFor hw.2.2.2.2.1 (fun k hk => ?_) ?_
  · rw [if_pos (lt_dec hk), idx_nat hk, Option.bind_some]
    refine Wp.seq (fun _ => True) ?_ fun j _ => Wp.ite (fun _ => .some fun _ => h60) fun _ => .some (ws hk hw.2.2.2.2.1)
    repeat' first | exact .some trivial | refine Wp.dec (fun _ => ?_) (fun _ => ?_)
  · rw [if_neg (by simp)]
    exact .some fun _ => h60

theorem smallLawMod (a : rLaw.den) (hw : WF rLaw a) : Wp (M.same_SmallLaw big a) fun r => r = true → Mod a := by
  unfold M.same_SmallLaw
  refine Wp.seq (fun j => j = false → a.2.2.length ≤ 5) ?_ fun j hj => ?_
  · refine Wp.dec (fun _ => .some fun h => by cases h) fun _ => Wp.dec (fun _ => .some fun h => by cases h) fun _ => .some fun h => ?_
    have := of_decide_eq_false h
    omega
  refine Wp.ite (fun _ => .some fun h => by cases h) fun hj' => ?_
  have h5 := hj (by simpa using hj')
  refine Wp.join (wpFor hw.1.1 (fun k hk => ?_) ?_)
  · rw [if_pos (lt_dec hk), idx_nat hk, Option.bind_some]
    have hx := hw.1.2 a.1[k] (List.getElem_mem hk)
    refine Wp.join (Wp.seq (fun _ => True) ?_ fun j _ => ?_)
    · refine Wp.dec (fun _ => .some trivial) fun _ => ?_
      rw [Option.bind_some]
      exact .some trivial
    refine Wp.ite (fun _ => .some fun h => by cases h) fun _ => ?_
    refine wpFor hx.2.1 (fun i hi => ?_) ?_
    · rw [Option.bind_some, if_pos (lt_dec hi), Option.bind_some, idx_nat hi, Option.bind_some]
      exact Wp.dec (fun _ => .some fun h => by cases h) fun _ => .some (ws hi hx.2.1)
    · rw [Option.bind_some, if_neg (by simp)]
      exact .some (.some (ws hk hw.1.1))
  rw [if_neg (by simp)]
  refine .some ?_
  show Wp _ _
  refine Wp.join (wpFor2 hw.2.1.1 (fun c k hk => ?_) fun c => ?_)
  · rw [if_pos (lt_dec hk)]
    simp only [idx_nat hk, Option.bind_some]
    refine Wp.seq (fun _ => True) ?_ fun j _ => Wp.ite (fun _ => .some fun h => by cases h) fun _ => .some (ws hk hw.2.1.1)
    exact Wp.dec (fun _ => .some trivial) fun _ => .some trivial
  rw [if_neg (by simp)]
  refine .some ?_
  show Wp _ _
  refine wpForJ (fun k => ∀ i (_ : i < k) (hi : i < a.2.2.length), a.2.2[i].2.2.2.2.length ≤ 60) hw.2.2.1 (fun i h => absurd h (by omega)) (fun c k hk hJ => ?_) fun c hJ => ?_
  · rw [if_pos (lt_dec hk)]
    simp only [idx_nat hk, Option.bind_some]
    refine Wp.seq (fun j => j = false → a.2.2[k].2.2.2.2.length ≤ 60) ?_ fun j hj => Wp.ite (fun _ => .some fun h => by cases h) fun hj' => .some ⟨ws hk hw.2.2.1, fun i hik hi => ?_⟩
    · refine Wp.dec (fun _ => .some fun h => by cases h) fun _ => ?_
      exact Wp.seq _ (smallScope60 _ (hw.2.2.2 _ (List.getElem_mem hk))) fun y hy => .some fun h => hy (by simpa using h)
    · rcases Nat.lt_or_ge i k with hlt | hge
      · exact hJ i hlt hi
      · obtain rfl : i = k := by omega
        exact hj (by simpa using hj')
  · rw [if_neg (by simp)]
    refine .some fun _ => ⟨h5, fun s hs => ?_⟩
    obtain ⟨i, hi, rfl⟩ := List.getElem_of_mem hs
    exact hJ i hi hi

theorem LawdiffRules_true (a b : rLaw.den) (hwa : WF rLaw a) (hwb : WF rLaw b) : M.law51_LawdiffRules big a b = some true := by
  apply Wp.eq
  unfold M.law51_LawdiffRules
  simp only [awake51, Option.bind_some]
  refine Wp.seq (fun j => j = false → Mod a ∧ Mod b) ?_ fun j hj => ?_
  · refine Wp.seq _ (smallLawMod a hwa) fun y hy => Wp.ite (fun _ => .some fun h => by cases h) fun hy' => ?_
    exact Wp.seq _ (smallLawMod b hwb) fun z hz => .some fun h => ⟨hy (by simpa using hy'), hz (by simpa using h)⟩
  refine Wp.ite (fun _ => .some rfl) fun hj' => ?_
  obtain ⟨hma, hmb⟩ := hj (by simpa using hj')
  have la := flat_len (outF_len (ch := ch1 b.2.2) (ch1_len b.2.2) hma.2) a.2.2.length
  have lb := flat_len (outF_len (ch := ch2 a.2.2) (ch2_len a.2.2) hmb.2) b.2.2.length
  have ha5 := hma.1
  have hb5 := hmb.1
  rw [diffA a b hwa hwb hma hmb, Option.bind_some, diffB a b hwa hwb hma hmb, Option.bind_some]
  obtain ⟨r, e, hr⟩ := same_Changes_P (outL (ch1 b.2.2) a.2.2 ++ outL (ch2 a.2.2) b.2.2) (outL (ch1 b.2.2) a.2.2 ++ outL (ch2 a.2.2) b.2.2) (by
    rw [List.length_append]
    unfold outL maxLen
    omega)
  rw [e, Option.bind_some, hr.2 rfl]
  exact .some rfl
end L
end Go.Proofs.Ytacochphlicngaa
