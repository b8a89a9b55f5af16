/- Operations come to an end: money, rates, tables (plain laws). -/
import Derived.Test.YtpgggmcpflgniaaDoorPT
namespace Go.Proofs.YtpgggmcpflgniaaDoor
open Go Go.RowKit
set_option maxRecDepth 100000
namespace L

/-- The codes of arithmetic: none, out of range, division by zero. -/
def Cd (c : Int) : Prop := c = 0 ∨ c = 3 ∨ c = 12

theorem Cd_ite {c : Prop} [Decidable c] {x y : Int × Int} (hx : Cd x.2) (hy : Cd y.2) : Cd (if c then x else y).2 := by
  split
  · exact hx
  · exact hy
theorem Cd0 (x : Int) : Cd (x, (0 : Int)).2 := .inl rfl
theorem Cd3 (x : Int) : Cd (x, (3 : Int)).2 := .inr (.inl rfl)
theorem bound_beyond {n l : Int} (hl : 0 ≤ l ∧ l ≤ 9000000000000000000) (h : ¬ (decide (l < n) || decide (n < IntKind.i64.wrap (0 - l))) = true) : -l ≤ n ∧ n ≤ l := by
  rw [wrap_id (by omega) (by omega)] at h
  simp at h
  omega
theorem rm_wp (N : Nat) (a b c : Int) (d : Bool) (e : Int) : Wp (M.money_roundMagnitude N a b c d e) fun _ => True := by
  unfold M.money_roundMagnitude
  simp only [ite_some, Option.bind_some]
  exact .some trivial
theorem signed_wp (N : Nat) (a : Int) (b : Bool) : Wp (M.money_signed N a b) fun _ => True := by
  unfold M.money_signed
  simp only [ite_some]
  exact .some trivial
theorem DivRound_wp (N : Nat) {a b m : Int} (hm : 0 ≤ m ∧ m ≤ 5) : Wp (M.money_DivRound N a b m) fun r => Cd r.2 := by
  unfold M.money_DivRound
  rw [validMode_eq]
  simp only [Option.bind_some, beyond_eq]
  rw [if_neg (by simp; omega)]
  refine Wp.dec (fun _ => .some (by simp [Cd])) fun hb => ?_
  simp only [ite_some, Option.bind_some, or_b]
  refine Wp.ite (fun _ => .some (by simp [Cd])) fun hc => ?_
  rw [Bool.or_eq_true, not_or] at hc
  have ha := bound_beyond (by omega) hc.1
  have hb' := bound_beyond (by omega) hc.2
  rw [magnitude_eq N ha, magnitude_eq N hb']
  simp only [Option.bind_some]
  have hne : (if b < 0 then -b else b) ≠ 0 := by split <;> omega
  rw [show ∀ x, quoA x (if b < 0 then -b else b) = some (Int.tdiv x (if b < 0 then -b else b)) from fun x => if_neg hne, show ∀ x, remA x (if b < 0 then -b else b) = some (Int.tmod x (if b < 0 then -b else b)) from fun x => if_neg hne]
  simp only [Option.bind_some]
  exact Wp.seq _ (rm_wp ..) fun x _ => Wp.seq _ (signed_wp ..) fun y _ => .some (by simp [Cd])
theorem Mul64_wp (N : Nat) (a b : Int) : Wp (M.math_bits_Mul64 N a b) fun r => (0 ≤ r.1 ∧ r.1 < 18446744073709551616) ∧ 0 ≤ r.2 ∧ r.2 < 18446744073709551616 := by
  unfold M.math_bits_Mul64
  exact .some ⟨u64_rng _, u64_rng _⟩
theorem Div64_wp {hi lo y : Int} (h0 : 0 ≤ hi) (h1 : hi < y) (h2 : y < 18446744073709551616) : Wp (M.math_bits_Div64 big hi lo y) fun _ => True := by
  obtain ⟨r, hr⟩ := Div64_tot (lo := lo) h0 h1 h2
  exact ⟨r, hr, trivial⟩
theorem MulDiv_wp {a b c m : Int} (hm : 0 ≤ m ∧ m ≤ 5) : Wp (M.money_MulDiv big a b c m) fun r => Cd r.2 := by
  unfold M.money_MulDiv
  rw [validMode_eq]
  simp only [Option.bind_some, beyond_eq]
  rw [if_neg (by simp; omega)]
  refine Wp.dec (fun _ => .some (by simp [Cd])) fun hb => ?_
  simp only [ite_some, Option.bind_some, or_b]
  refine Wp.ite (fun _ => .some (by simp [Cd])) fun hc => ?_
  simp only [Bool.or_eq_true, not_or] at hc
  have ha := bound_beyond (n := a) (l := 1000000000000000) (by omega) (by simpa using hc.1)
  have hb' := bound_beyond (n := b) (l := 1000000000) (by omega) (by simpa using hc.2.1)
  have hc' := bound_beyond (n := c) (l := 1000000000) (by omega) (by simpa using hc.2.2)
  rw [magnitude_eq _ (n := a) (by omega), magnitude_eq _ (n := b) (by omega)]
  simp only [Option.bind_some]
  refine Wp.seq _ (Mul64_wp ..) fun r hr => ?_
  rw [magnitude_eq _ (n := c) (by omega)]
  simp only [Option.bind_some]
  refine Wp.dec (fun _ => .some (by simp [Cd])) fun hd => ?_
  have hlt : (if c < 0 then -c else c) < 18446744073709551616 := by split <;> omega
  refine Wp.seq _ (Div64_wp hr.1.1 (by omega) hlt) fun q _ => ?_
  refine Wp.dec (fun _ => .some (by simp [Cd])) fun _ => ?_
  refine Wp.seq _ (rm_wp ..) fun x _ => ?_
  refine Wp.dec (fun _ => .some (by simp [Cd])) fun _ => ?_
  exact Wp.seq _ (signed_wp ..) fun y _ => .some (by simp [Cd])
theorem RoundTo_wp {a b m : Int} (hm : 0 ≤ m ∧ m ≤ 5) : Wp (M.money_RoundTo big a b m) fun r => Cd r.2 := by
  unfold M.money_RoundTo
  rw [validMode_eq]
  simp only [Option.bind_some, beyond_eq]
  rw [if_neg (by simp; omega)]
  refine Wp.dec (fun _ => .some (by simp [Cd])) fun hb => ?_
  simp only [ite_some, Option.bind_some, or_b]
  refine Wp.ite (fun _ => .some (by simp [Cd])) fun hc => ?_
  refine Wp.seq _ (DivRound_wp _ hm) fun r hr => ?_
  refine .some ?_
  split
  · exact hr
  · split <;> simp [Cd]
theorem rvalid_eq (N : Nat) (m : Int) : M.rate_validMode N m = some (decide (0 ≤ m) && decide (m ≤ 5)) := validMode_eq N m
theorem rbeyond_eq (N : Nat) (n l : Int) : M.rate_beyond N n l = some (decide (l < n) || decide (n < IntKind.i64.wrap (0 - l))) := beyond_eq N n l
theorem RMul_wp {a b m : Int} (hm : 0 ≤ m ∧ m ≤ 5) : Wp (M.rate_Mul big a b m) fun r => Cd r.2 := by
  unfold M.rate_Mul
  rw [rvalid_eq]
  simp only [Option.bind_some, rbeyond_eq]
  rw [if_neg (by simp; omega)]
  simp only [ite_some, Option.bind_some, or_b]
  refine Wp.ite (fun _ => .some (by simp [Cd])) fun hc => ?_
  refine Wp.seq _ (DivRound_wp _ hm) fun r hr => ?_
  refine .some ?_
  split
  · exact hr
  · split <;> simp [Cd]
theorem RApply_wp {a b m : Int} (hm : 0 ≤ m ∧ m ≤ 5) : Wp (M.rate_Apply big a b m) fun r => Cd r.2 := by
  unfold M.rate_Apply
  exact Wp.seq _ (MulDiv_wp hm) fun r hr => .some hr
theorem roundsUp_wp (N : Nat) (a b c : Int) (d : Bool) (e : Int) : Wp (M.rate_roundsUp N a b c d e) fun _ => True := by
  unfold M.rate_roundsUp
  simp only [ite_some, Option.bind_some]
  exact .some trivial
theorem FromRatio_wp {a b m : Int} (hm : 0 ≤ m ∧ m ≤ 5) : Wp (M.rate_FromRatio big a b m) fun r => Cd r.2 := by
  unfold M.rate_FromRatio
  rw [rvalid_eq]
  simp only [Option.bind_some, rbeyond_eq]
  rw [if_neg (by simp; omega)]
  refine Wp.dec (fun _ => .some (by simp [Cd])) fun hb => ?_
  simp only [ite_some, Option.bind_some, or_b]
  refine Wp.ite (fun _ => .some (by simp [Cd])) fun hc => ?_
  refine Wp.seq _ (Mul64_wp ..) fun r hr => ?_
  refine Wp.dec (fun _ => .some (by simp [Cd])) fun hd => ?_
  refine Wp.seq _ (Div64_wp hr.1.1 (by omega) (u64_rng _).2) fun q _ => ?_
  refine Wp.dec (fun _ => .some (by simp [Cd])) fun _ => ?_
  refine Wp.seq _ (Wp.bind (Wp.mono (roundsUp_wp ..) fun x _ => ?_)) fun j7 (_ : True) => ?_
  · exact .some trivial
  · exact .some (by split <;> simp [Cd])

/-! ## Tables -/
theorem Contains_wp (N : Nat) (r : rNode.den) (d : Int) : Wp (M.daterange_Contains N r d) fun _ => True := by
  unfold M.daterange_Contains M.daterange_Valid
  simp only [ite_some, Option.bind_some]
  exact .some trivial
theorem contribution_wp (a b : Int) : Wp (M.table_contribution big a b) fun _ => True := by
  unfold M.table_contribution
  simp only [ite_some, Option.bind_some]
  refine Wp.seq _ (Mul64_wp ..) fun r hr => ?_
  refine Wp.dec (fun _ => .some trivial) fun hd => ?_
  refine Wp.seq _ (Div64_wp hr.1.1 (by omega) (by omega)) fun q _ => ?_
  exact .some trivial
theorem roundSum_wp (N : Nat) {a b m : Int} (hm : 0 ≤ m ∧ m ≤ 5) : Wp (M.table_roundSum N a b m) fun r => Cd r.2 := by
  unfold M.table_roundSum
  simp only [ite_some, Option.bind_some]
  refine Wp.ite (fun _ => .some (by simp [Cd])) fun hc => ?_
  refine Wp.seq _ (DivRound_wp _ hm) fun r hr => ?_
  exact .some (Cd_ite hr (Cd_ite (Cd3 _) (Cd0 _)))
theorem Brackets_wp {t : rTable.den} {d k m : Int} (hm : 0 ≤ m ∧ m ≤ 5) (hk : t.2.1 = ((3, 0) : Int × Int)) (hv : t.2.2.1 = ((4, 0) : Int × Int)) (hl : t.2.2.2.length ≤ 9223372036854775807) : Wp (M.table_Brackets big t d k m) fun r => Cd r.2 := by
  unfold M.table_Brackets
  simp only [ite_some, Option.bind_some, or_b]
  rw [if_neg (by simp; omega), if_neg (by rw [hk, hv]; simp [eqR])]
  refine Wp.ite (fun _ => .some (by simp [Cd])) fun hc => ?_
  refine Wp.join (Wp.loop (fun s : Int × Int × Int => ∃ i : Nat, s.2.2 = i ∧ i ≤ t.2.2.2.length) (fun s => (t.2.2.2.length - s.2.2).toNat) ⟨0, rfl, Nat.zero_le _⟩ (by simp only; unfold big; omega) ?_)
  rintro ⟨s1, s2, s3⟩ ⟨i, hi, hil⟩
  simp only at hi
  subst hi
  refine Wp.dec (fun h => ?_) fun h => .some ?_
  · have hi' : i < t.2.2.2.length := by simp only at h; omega
    refine Wp.join ?_
    simp only
    rw [idx_nat hi']
    simp only [Option.bind_some]
    refine Wp.seq (fun _ => True) ?_ fun j8 _ => ?_
    · refine Wp.seq _ (Contains_wp ..) fun y _ => ?_
      exact .some trivial
    have nxt : ∀ a b : Int, JoinQ (fun j6 : Int × Int => some (Sum.inl (j6.1, j6.2, IntKind.i64.wrap ((i : Int) + 1)))) (LoopW (fun s : Int × Int × Int => ∃ i : Nat, s.2.2 = i ∧ i ≤ t.2.2.2.length) (fun s => (t.2.2.2.length - s.2.2).toNat) (s1, s2, (i : Int)) (JoinQ (fun j4 : Int × Int => (M.table_roundSum big j4.1 j4.2 m).bind fun y11 => some (y11.1, y11.2)) fun r : Int × Int => Cd r.2)) (.inl (a, b)) := by
      intro a b
      refine .some ?_
      rw [wrap_succ (by omega)]
      exact ⟨⟨i + 1, rfl, hi'⟩, by simp only; omega⟩
    refine Wp.ite (fun _ => .some (nxt _ _)) fun _ => ?_
    refine Wp.seq _ (contribution_wp ..) fun y _ => ?_
    refine .some ?_
    split
    · show Cd _
      simp [Cd]
    · exact nxt _ _
  · show Wp _ _
    exact Wp.seq _ (roundSum_wp _ hm) fun r hr => .some hr
theorem first_wp (l : List rRow.den) (a b : Int) (hl : l.length ≤ 9223372036854775807) : Wp (M.table_first_guerdon_api_Row_v1 big l a b) fun r => r.2.1 = true → 0 ≤ r.1 ∧ r.1 < l.length := by
  unfold M.table_first_guerdon_api_Row_v1
  refine Wp.loop (fun s : Int × Int × Int => ∃ i : Nat, s.1 = i ∧ i ≤ l.length) (fun s => (l.length - s.1).toNat) ⟨0, rfl, Nat.zero_le _⟩ (by simp only; unfold big; omega) ?_
  rintro ⟨s1, s2, s3⟩ ⟨i, hi, hil⟩
  simp only at hi
  subst hi
  refine Wp.dec (fun h => ?_) fun h => .some fun h => by cases h
  have hi' : i < l.length := by simp only at h; omega
  simp only
  rw [idx_nat hi']
  simp only [Option.bind_some]
  refine Wp.seq (fun _ => True) ?_ fun y _ => ?_
  · unfold M.table_Lookup_c1_v1
    refine Wp.seq (fun _ => True) (Wp.seq _ (Contains_wp ..) fun y _ => ?_) fun j _ => .some trivial
    simp only [ite_some]
    exact .some trivial
  · refine Wp.ite (fun _ => .some fun _ => ⟨by simp only; omega, by simp only; omega⟩) fun _ => .some ?_
    rw [wrap_succ (by omega)]
    exact ⟨⟨i + 1, rfl, hi'⟩, by simp only; omega⟩
theorem Lookup_wp (t : rTable.den) (a b : Int) (hl : t.2.2.2.length ≤ 9223372036854775807) : Wp (M.table_Lookup big t a b) fun r => r.2 = true → 0 ≤ r.1 ∧ r.1 < t.2.2.2.length := by
  unfold M.table_Lookup
  exact Wp.seq _ (first_wp _ a b hl) fun r hr => .some hr

/-! ## Dates -/
theorem dvalid_eq (N : Nat) (d : Int) : M.date_valid N d = some (decide (0 ≤ d) && decide (d ≤ 109572)) := by
  unfold M.date_valid
  simp only [ite_some, Option.bind_some, and_b]
theorem DaysInMonth_wp (N : Nat) (y m : Int) : Wp (M.date_DaysInMonth N y m) fun r => 0 ≤ r ∧ r ≤ 31 := by
  unfold M.date_DaysInMonth M.date_IsLeap
  simp only [ite_some, Option.bind_some, or_b, and_b]
  refine Wp.ite (fun _ => .some (by omega)) fun hc => ?_
  refine Wp.ite (fun _ => .some (by omega)) fun _ => ?_
  have hm : 1 ≤ m ∧ m ≤ 12 := by simp at hc; omega
  rw [wrap_id (by omega) (by omega)]
  have : m = 1 ∨ m = 2 ∨ m = 3 ∨ m = 4 ∨ m = 5 ∨ m = 6 ∨ m = 7 ∨ m = 8 ∨ m = 9 ∨ m = 10 ∨ m = 11 ∨ m = 12 := by omega
  rcases this with rfl | rfl | rfl | rfl | rfl | rfl | rfl | rfl | rfl | rfl | rfl | rfl <;> exact ⟨_, rfl, by decide⟩
theorem yearStart_wp (N : Nat) (y : Int) : Wp (M.date_yearStart N y) fun _ => True := by
  unfold M.date_yearStart M.date_leapYears
  simp only [Option.bind_some]
  exact .some trivial
theorem ToYMD_wp (d : Int) : Wp (M.date_ToYMD big d) fun _ => True := by
  unfold M.date_ToYMD
  rw [dvalid_eq]
  simp only [Option.bind_some]
  refine Wp.ite (fun _ => .some trivial) fun hv => ?_
  have hd : 0 ≤ d ∧ d ≤ 109572 := by simpa using hv
  have h0 : Int.tdiv d 366 = d / 366 := Int.tdiv_eq_ediv_of_nonneg hd.1
  have hw : IntKind.i64.wrap (d / 366) = d / 366 := wrap_id (by omega) (by omega)
  have hw2 : IntKind.i64.wrap (1900 + d / 366) = 1900 + d / 366 := wrap_id (by omega) (by omega)
  rw [h0, hw, hw2]
  refine Wp.seq (fun _ => True) (Wp.loop (fun y : Int => 1900 ≤ y ∧ y ≤ 2199) (fun y => (2199 - y).toNat) (by omega) (by unfold big; omega) ?_) fun y _ => ?_
  · rintro y ⟨h1, h2⟩
    by_cases hy : y = 2199
    · subst hy
      have e : M.date_yearStart big (IntKind.i64.wrap ((2199 : Int) + 1)) = some 109573 := by show (_ : Option Int) = _; kernel_rfl
      rw [e]
      simp only [Option.bind_some]
      rw [if_neg (by simp; omega)]
      exact .some trivial
    · refine Wp.seq _ (yearStart_wp ..) fun z _ => ?_
      refine Wp.dec (fun _ => .some ?_) fun _ => .some trivial
      rw [wrap_id (by omega) (by omega)]
      exact ⟨by omega, by simp only; omega⟩
  · refine Wp.seq _ (yearStart_wp ..) fun z _ => ?_
    refine Wp.loop (fun s : Int × Int => ∃ i : Nat, s.2 = i ∧ i ≤ 12) (fun s => (12 - s.2).toNat) ⟨0, rfl, by omega⟩ (by simp only; unfold big; omega) ?_
    rintro ⟨a, b⟩ ⟨i, hi, hil⟩
    simp only at hi
    subst hi
    refine Wp.dec (fun h => ?_) fun _ => .some trivial
    refine Wp.seq _ (DaysInMonth_wp ..) fun w _ => ?_
    refine Wp.dec (fun _ => .some trivial) fun _ => .some ?_
    simp only at h ⊢
    rw [wrap_succ (by omega)]
    exact ⟨⟨i + 1, rfl, by omega⟩, by simp only; omega⟩
theorem FromYMD_wp (y m d : Int) : Wp (M.date_FromYMD big y m d) fun r => Cd r.2 := by
  unfold M.date_FromYMD
  refine Wp.seq (fun j => j = false → 1 ≤ m ∧ m ≤ 12) ?_ fun j hj => ?_
  · refine Wp.dec (fun _ => .some (fun h => by cases h)) fun _ => Wp.dec (fun _ => .some (fun h => by cases h)) fun _ => Wp.dec (fun _ => .some (fun h => by cases h)) fun h1 => Wp.dec (fun _ => .some (fun h => by cases h)) fun h2 => Wp.dec (fun _ => .some (fun h => by cases h)) fun _ => ?_
    exact Wp.seq _ (DaysInMonth_wp ..) fun w _ => .some fun _ => ⟨by omega, by omega⟩
  · refine Wp.ite (fun _ => .some (by simp [Cd])) fun hc => ?_
    have hm := hj (by simpa using hc)
    refine Wp.seq _ (yearStart_wp ..) fun z _ => ?_
    refine Wp.seq (fun _ => True) (Wp.loop (fun s : Int × Int => ∃ i : Nat, s.2 = i ∧ i ≤ 12) (fun s => (13 - s.2).toNat) ⟨0, rfl, by omega⟩ (by simp only; unfold big; omega) ?_) fun w _ => .some (by simp [Cd])
    rintro ⟨a, b⟩ ⟨i, hi, hil⟩
    simp only at hi
    subst hi
    refine Wp.dec (fun h => ?_) fun _ => .some trivial
    refine Wp.seq _ (DaysInMonth_wp ..) fun w _ => .some ?_
    simp only at h ⊢
    rw [wrap_id (n := m - 1) (by omega) (by omega)] at h
    rw [wrap_succ (by omega)]
    exact ⟨⟨i + 1, rfl, by omega⟩, by simp only; omega⟩
theorem AddMonths_wp (d n : Int) : Wp (M.date_AddMonths big d n) fun r => Cd r.2 := by
  unfold M.date_AddMonths
  rw [dvalid_eq]
  simp only [ite_some, Option.bind_some, or_b]
  refine Wp.ite (fun _ => .some (by simp [Cd])) fun hc => ?_
  refine Wp.seq _ (ToYMD_wp ..) fun y _ => ?_
  refine Wp.ite (fun _ => .some (by simp [Cd])) fun _ => ?_
  refine Wp.seq _ (DaysInMonth_wp ..) fun w _ => ?_
  exact Wp.seq _ (FromYMD_wp ..) fun r hr => .some hr
theorem YearsBetween_wp (a b : Int) : Wp (M.date_YearsBetween big a b) fun _ => True := by
  unfold M.date_YearsBetween
  rw [dvalid_eq, dvalid_eq]
  simp only [ite_some, Option.bind_some, or_b]
  refine Wp.ite (fun _ => .some trivial) fun _ => ?_
  refine Wp.seq _ (ToYMD_wp ..) fun y _ => Wp.seq _ (ToYMD_wp ..) fun z _ => ?_
  refine Wp.seq (fun _ => True) (Wp.seq _ (AddMonths_wp ..) fun r _ => ?_) fun j _ => .some trivial
  exact .some trivial
end L
end Go.Proofs.YtpgggmcpflgniaaDoor
