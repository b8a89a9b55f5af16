/- Agreement of an environment with a signature (plain laws). -/
import Derived.Test.YtbmkhjdoalnkmaaDoorPY5
namespace Go.Proofs.YtbmkhjdoalnkmaaDoor
open Go Go.RowKit
set_option maxRecDepth 100000
namespace L

theorem bounds_eq (N : Nat) (k : Int) : M.ref13_bounds N k = some (if k = 1 then (0, 1) else if k = 2 then (-1000000000000, 1000000000000) else if k = 3 then (-1000000000000000, 1000000000000000) else if k = 4 then (-1000000000, 1000000000) else if k = 5 then (0, 109572) else if k = 6 then (0, 15) else (0, -1)) := by
  unfold M.ref13_bounds
  simp only [ite_some, decide_eq_true_eq]
theorem Plausible_ref (N : Nat) (v : Vl) : M.ref13_Plausible N v = some (decide (Plaus v.1 v.2.1 v.2.2)) := by
  revert v; rintro ⟨(k : Int), (e : Int), (n : Int)⟩
  unfold M.ref13_Plausible
  rw [bounds_eq]
  simp only [ite_some, Option.bind_some, or_b, and_b]
  refine congrArg some ?_
  by_cases h1 : k = 1
  · subst h1; rw [Bool.eq_iff_iff]; simp [Plaus]; try (dsimp only [rInt, Row.den] at *; omega)
  by_cases h2 : k = 2
  · subst h2; rw [Bool.eq_iff_iff]; simp [Plaus]; try (dsimp only [rInt, Row.den] at *; omega)
  by_cases h3 : k = 3
  · subst h3; rw [Bool.eq_iff_iff]; simp [Plaus]; try (dsimp only [rInt, Row.den] at *; omega)
  by_cases h4 : k = 4
  · subst h4; rw [Bool.eq_iff_iff]; simp [Plaus]; try (dsimp only [rInt, Row.den] at *; omega)
  by_cases h5 : k = 5
  · subst h5; rw [Bool.eq_iff_iff]; simp [Plaus]; try (dsimp only [rInt, Row.den] at *; omega)
  by_cases h6 : k = 6
  · subst h6; rw [Bool.eq_iff_iff]; simp [Plaus]; try (dsimp only [rInt, Row.den] at *; omega)
  simp [Plaus, h1, h2, h3, h4, h5, h6]; try omega
theorem Has_ref (N : Nat) (v : Vl) (t : Ty) : M.ref13_Has N v t = some (decide (HasT v t)) := by
  unfold M.ref13_Has
  rw [Plausible_ref]
  simp only [ite_some, Option.bind_some, and_b]
  refine congrArg some ?_
  rw [Bool.eq_iff_iff]; simp [HasT0]

def Kn (l : List Vl) (ts : List Ty) (u : Bool) : Prop := l.length = ts.length ∧ ∀ (k : Nat) (t : Ty), ts[k]? = some t → ∃ v, l[k]? = some v ∧ (HasT v t ∨ (u = true ∧ (v.1 : Int) = 0))
theorem known_wp {l : List Vl} {ts : List Ty} {u : Bool} (ht : ts.length ≤ 1000) : Wp (M.ref13_known big l ts u) fun b => b = true → Kn l ts u := by
  unfold M.ref13_known
  refine Wp.ndec (fun _ => .some fun h => by cases h) fun hl => ?_
  have hl : l.length = ts.length := by omega
  refine Wp.loop (fun s : Int => ∃ k : Nat, s = k ∧ k ≤ l.length ∧ ∀ (j : Nat) (t : Ty), j < k → ts[j]? = some t → ∃ v, l[j]? = some v ∧ (HasT v t ∨ (u = true ∧ (v.1 : Int) = 0))) (fun s => (l.length - s).toNat) ⟨0, rfl, Nat.zero_le _, fun j t h => by omega⟩ (by unfold big; omega) ?_
  rintro _ ⟨k, rfl, hk, hp⟩
  refine Wp.dec (fun h => ?_) fun h => .some fun _ => ⟨hl, fun j t hj => hp j t (by have := (List.getElem?_eq_some_iff.1 hj).1; omega) hj⟩
  have hk' : k < l.length := by omega
  have hk2 : k < ts.length := by omega
  rw [idx_nat hk', idx_nat hk2]
  simp only [Option.bind_some, Has_ref]
  refine Wp.seq (fun j => j = false → HasT l[k] ts[k] ∨ (u = true ∧ (l[k].1 : Int) = 0)) ?_ fun j hj => ?_
  · refine Wp.ite (fun _ => ?_) fun h => .some fun _ => .inl (by simpa using h)
    refine Wp.ite (fun hu => .some fun h => .inr ⟨hu, by simpa using h⟩) fun _ => .some fun h => by cases h
  refine Wp.ite (fun _ => .some fun h => by cases h) fun hc => .some ?_
  rw [wrap_succ (by omega)]
  refine ⟨⟨k + 1, rfl, hk', fun j t hlt hjt => ?_⟩, by simp only; omega⟩
  by_cases hjk : j = k
  · subst hjk
    rw [List.getElem?_eq_getElem hk2] at hjt
    cases hjt
    exact ⟨l[j], List.getElem?_eq_getElem hk', hj (by simpa using hc)⟩
  · exact hp j t (by omega) hjt

structure SgOK (s : Sg) : Prop where
  enums : s.1.length ≤ 10
  tables : s.2.1.length ≤ 10
  inputs : s.2.2.1.length ≤ 40
  defs : s.2.2.2.1.length ≤ 40
  mdefs : s.2.2.2.2.1.length ≤ 40
theorem sg_wp (s : Sg) : Wp (M.ref10_Small big s) fun b => b = true → SgOK s := by
  unfold M.ref10_Small
  simp only [ite_some, or_b, Option.bind_some]
  refine Wp.ite (fun _ => .some fun h => by cases h) fun hc => ?_
  simp only [Bool.or_eq_true, decide_eq_true_eq, not_or, Int.not_lt] at hc
  have ok : SgOK s := ⟨by omega, by omega, by omega, by omega, by omega⟩
  have := ok.enums
  refine Wp.loop (fun q : Int => ∃ k : Nat, q = k ∧ k ≤ s.1.length) (fun q => (s.1.length - q).toNat) ⟨0, rfl, Nat.zero_le _⟩ (by unfold big; omega) ?_
  rintro _ ⟨k, rfl, hk⟩
  refine Wp.dec (fun h => ?_) fun h => .some fun _ => ok
  have hk' : k < s.1.length := by omega
  rw [idx_nat hk']
  simp only [Option.bind_some]
  refine .some ?_
  split
  · exact fun h => by cases h
  · rw [wrap_succ (by omega)]
    exact ⟨⟨k + 1, rfl, hk'⟩, by simp only; omega⟩

structure Agr0 (s : Sg) (env : rEnv.den) : Prop where
  inp : Kn env.2.1 s.2.2.1 false
  dfs : Kn env.2.2.1 s.2.2.2.1 true
  mts : ∀ (k : Nat) (t : Ty), s.2.2.2.2.1[k]? = some t → env.2.2.2.2.1[k]? = some t
  mem : ∀ l ∈ env.2.2.2.1, Kn l s.2.2.2.2.1 true
theorem agrees_wp {s : Sg} {env : rEnv.den} (hs : SgOK s) (he : EnvOK env) : Wp (M.ref13_Agrees big env s) fun b => b = true → Agr0 s env := by
  obtain ⟨s1, s2, s3, s4, s5⟩ := hs
  have he1 := he.1
  unfold M.ref13_Agrees
  refine Wp.seq (fun j => j = false → Kn env.2.1 s.2.2.1 false ∧ Kn env.2.2.1 s.2.2.2.1 true ∧ env.2.2.2.2.1.length = s.2.2.2.2.1.length) ?_ fun j hj => ?_
  · refine Wp.seq _ (known_wp (by omega)) fun b1 h1 => ?_
    refine Wp.ite (fun _ => .some fun h => by cases h) fun c1 => ?_
    refine Wp.seq _ (known_wp (by omega)) fun b2 h2 => ?_
    refine Wp.ite (fun _ => .some fun h => by cases h) fun c2 => ?_
    refine Wp.ndec (fun _ => .some fun h => by cases h) fun c3 => ?_
    simp only [ite_some]
    exact .some fun _ => ⟨h1 (by simpa using c1), h2 (by simpa using c2), by omega⟩
  refine Wp.ite (fun _ => .some fun h => by cases h) fun hc => ?_
  obtain ⟨k1, k2, k3⟩ := hj (by simpa using hc)
  refine Wp.join (Wp.loop (fun q : Int => ∃ k : Nat, q = k ∧ k ≤ s.2.2.2.2.1.length ∧ ∀ (j : Nat) (t : Ty), j < k → s.2.2.2.2.1[j]? = some t → env.2.2.2.2.1[j]? = some t) (fun q => (s.2.2.2.2.1.length - q).toNat) ⟨0, rfl, Nat.zero_le _, fun j t h => by omega⟩ (by unfold big; omega) ?_)
  rintro _ ⟨k, rfl, hk, hp⟩
  refine Wp.dec (fun h => ?_) fun h => .some ?_
  · have hk' : k < s.2.2.2.2.1.length := by omega
    have hk2 : k < env.2.2.2.2.1.length := by omega
    rw [idx_nat hk', idx_nat hk2]
    simp only [Option.bind_some, eqT]
    refine Wp.ite (fun _ => .some ?_) fun heq => .some ?_
    · show false = true → _
      exact fun h => by cases h
    rw [wrap_succ (by omega)]
    refine ⟨⟨k + 1, rfl, hk', fun j t hlt hjt => ?_⟩, by simp only; omega⟩
    by_cases hjk : j = k
    · subst hjk
      rw [List.getElem?_eq_getElem hk'] at hjt
      cases hjt
      rw [List.getElem?_eq_getElem hk2]
      congr 1
      simpa using heq
    · exact hp j t (by omega) hjt
  · have hmts : ∀ (j : Nat) (t : Ty), s.2.2.2.2.1[j]? = some t → env.2.2.2.2.1[j]? = some t := fun j t hjt => hp j t (by have := (List.getElem?_eq_some_iff.1 hjt).1; omega) hjt
    show Wp _ _
    refine Wp.loop (fun q : Int => ∃ k : Nat, q = k ∧ k ≤ env.2.2.2.1.length ∧ ∀ l ∈ env.2.2.2.1.take k, Kn l s.2.2.2.2.1 true) (fun q => (env.2.2.2.1.length - q).toNat) ⟨0, rfl, Nat.zero_le _, by simp⟩ (by unfold big; omega) ?_
    rintro _ ⟨k, rfl, hk, hp⟩
    refine Wp.dec (fun h => ?_) fun h => .some fun _ => ⟨k1, k2, hmts, by rw [List.take_of_length_le (by omega)] at hp; exact hp⟩
    have hk' : k < env.2.2.2.1.length := by omega
    rw [idx_nat hk']
    simp only [Option.bind_some]
    refine Wp.seq _ (known_wp (by omega)) fun b hb => ?_
    refine Wp.ite (fun _ => .some fun h => by cases h) fun hc => .some ?_
    rw [wrap_succ (by omega)]
    refine ⟨⟨k + 1, rfl, hk', fun l hl => ?_⟩, by simp only; omega⟩
    rw [List.take_succ_eq_append_getElem hk'] at hl
    rcases List.mem_append.1 hl with hl | hl
    · exact hp l hl
    · rw [List.mem_singleton.1 hl]; exact hb (by simpa using hc)

theorem rows_wp {a b : List rRow.den} (ha : a.length ≤ 100000) : Wp (M.same_Rows big a b) fun _ => True := by
  unfold M.same_Rows
  refine Wp.ndec (fun _ => .some trivial) fun _ => ?_
  refine Wp.loop (fun q : Int => ∃ k : Nat, q = k ∧ k ≤ a.length) (fun q => (a.length - q).toNat) ⟨0, rfl, Nat.zero_le _⟩ (by unfold big; omega) ?_
  rintro _ ⟨k, rfl, hk⟩
  simp only [ite_some, and_b, Option.bind_some]
  refine Wp.ite (fun h => ?_) fun h => .some trivial
  simp only [Bool.and_eq_true, decide_eq_true_eq] at h
  have hk' : k < a.length := by omega
  have hk2 : k < b.length := by omega
  rw [idx_nat hk', idx_nat hk2]
  simp only [Option.bind_some]
  refine .some ?_
  split
  · exact trivial
  · rw [wrap_succ (by omega)]
    exact ⟨⟨k + 1, rfl, hk'⟩, by simp only; omega⟩
theorem table_wp {a b : rTable.den} (ha : a.2.2.2.length ≤ 100000) : Wp (M.same_Table big a b) fun r => r = true → a.2.1 = b.2.1 ∧ a.2.2.1 = b.2.2.1 := by
  unfold M.same_Table
  refine Wp.seq (fun j => j = true → a.2.1 = b.2.1 ∧ a.2.2.1 = b.2.2.1) ?_ fun j hj => .some hj
  rw [eqT, eqT]
  refine Wp.dec (fun _ => ?_) fun _ => .some fun h => by cases h
  refine Wp.dec (fun h1 => ?_) fun _ => .some fun h => by cases h
  refine Wp.dec (fun h2 => ?_) fun _ => .some fun h => by cases h
  exact Wp.seq _ (rows_wp ha) fun y _ => .some fun _ => ⟨h1, h2⟩
theorem tables_wp {s : Sg} {env : rEnv.den} (hs : SgOK s) (he : EnvOK env) : Wp (M.same_Tables big env.2.2.2.2.2 s.2.1) fun r => r = true → env.2.2.2.2.2.length = s.2.1.length ∧ ∀ (k : Nat) (T : rTable.den), s.2.1[k]? = some T → ∃ T' : rTable.den, env.2.2.2.2.2[k]? = some T' ∧ T'.2.1 = T.2.1 ∧ T'.2.2.1 = T.2.2.1 := by
  have hl := hs.tables
  have he2 := he.2
  generalize env.2.2.2.2.2 = a at *
  generalize s.2.1 = b at *
  unfold M.same_Tables
  refine Wp.ndec (fun _ => .some fun h => by cases h) fun hab => ?_
  have hab : a.length = b.length := by omega
  refine Wp.loop (fun q : Int => ∃ k : Nat, q = k ∧ k ≤ a.length ∧ ∀ (j : Nat) (T : rTable.den), j < k → b[j]? = some T → ∃ T' : rTable.den, a[j]? = some T' ∧ T'.2.1 = T.2.1 ∧ T'.2.2.1 = T.2.2.1) (fun q => (a.length - q).toNat) ⟨0, rfl, Nat.zero_le _, fun j T h => by omega⟩ (by unfold big; omega) ?_
  rintro _ ⟨k, rfl, hk, hp⟩
  simp only [ite_some, and_b, Option.bind_some]
  refine Wp.ite (fun h => ?_) fun h => .some fun _ => ⟨hab, fun j T hj => hp j T (by have := (List.getElem?_eq_some_iff.1 hj).1; simp at h; omega) hj⟩
  simp only [Bool.and_eq_true, decide_eq_true_eq] at h
  have hk' : k < a.length := by omega
  have hk2 : k < b.length := by omega
  rw [idx_nat hk', idx_nat hk2]
  simp only [Option.bind_some]
  refine Wp.seq _ (table_wp (he2 _ (List.getElem_mem hk'))) fun y hy => .some ?_
  split
  · exact fun h => by cases h
  · rename_i hc
    rw [wrap_succ (by omega)]
    refine ⟨⟨k + 1, rfl, hk', fun j T hlt hjt => ?_⟩, by simp only; omega⟩
    by_cases hjk : j = k
    · subst hjk
      rw [List.getElem?_eq_getElem hk2] at hjt
      cases hjt
      exact ⟨a[j], List.getElem?_eq_getElem hk', hy (by simpa using hc)⟩
    · exact hp j T (by omega) hjt

theorem valid_ref (N : Nat) (t : Ty) (E : List rEnum.den) : M.ref09_ValidType N t E = some (decide (VTp t E.length)) := by
  obtain ⟨(k : Int), (u : Int)⟩ := t
  unfold M.ref09_ValidType
  dsimp only [rInt, Row.den]
  simp only [ite_some, Option.bind_some, and_b]
  refine congrArg some ?_
  have e : decide (VTp ((k, u) : Int × Int) E.length) = decide ((1 ≤ k ∧ k ≤ 5 ∧ u = 0) ∨ (k = 6 ∧ 0 ≤ u ∧ u < (E.length : Int))) := by
    rw [Bool.eq_iff_iff, decide_eq_true_eq, decide_eq_true_eq]; rfl
  rw [e]
  by_cases h6 : k = 6
  · subst h6
    rw [Bool.eq_iff_iff]; simp
  · rw [Bool.eq_iff_iff]; simp [h6]
theorem in_wp (N : Nat) (n : Int) (t : Ty) (E : List rEnum.den) : Wp (M.ref09_In N n t E) fun _ => True := by
  unfold M.ref09_In
  refine Wp.seq (fun _ => True) ?_ fun y _ => by simp only [ite_some, Option.bind_some]; exact .some trivial
  obtain ⟨(k : Int), (u : Int)⟩ := t
  unfold M.ref09_Bounds
  dsimp only [rInt, Row.den]
  rw [valid_ref]
  simp only [Option.bind_some]
  refine Wp.ite (fun _ => .some trivial) fun hv => ?_
  have hv : VTp ((k, u) : Int × Int) E.length := by simpa using hv
  have hv : (1 ≤ k ∧ k ≤ 5 ∧ u = 0) ∨ (k = 6 ∧ 0 ≤ u ∧ u < (E.length : Int)) := hv
  refine Wp.dec (fun _ => .some trivial) fun _ => ?_
  refine Wp.dec (fun _ => .some trivial) fun _ => ?_
  refine Wp.dec (fun _ => .some trivial) fun _ => ?_
  refine Wp.dec (fun _ => .some trivial) fun _ => ?_
  refine Wp.dec (fun _ => .some trivial) fun _ => ?_
  exact Wp.bind (Wp.idxI (by omega) (by omega) fun _ _ _ => .some trivial)
theorem rvalid_wp (N : Nat) (t : Ty) : Wp (M.ref05_Valid N t) fun _ => True := by
  unfold M.ref05_Valid
  simp only [ite_some, Option.bind_some]
  exact .some trivial
theorem conflict_wp (N : Nat) (a b : rRow.den) : Wp (M.ref12_conflict N a b) fun _ => True := by
  unfold M.ref12_conflict
  refine Wp.seq (fun _ => True) ?_ fun y _ => by simp only [ite_some, Option.bind_some]; exact .some trivial
  unfold M.ref05_Intersect
  refine Wp.seq (fun _ => True) ?_ fun j _ => Wp.ite (fun _ => .some trivial) fun _ => Wp.ite (fun _ => .some trivial) fun _ => .some trivial
  refine Wp.seq _ (rvalid_wp ..) fun _ _ => Wp.ite (fun _ => .some trivial) fun _ => Wp.seq _ (rvalid_wp ..) fun _ _ => .some trivial
theorem wrong_wp (N : Nat) (x : rRow.den) (T : rTable.den) (E : List rEnum.den) : Wp (M.ref12_wrong N x T E) fun _ => True := by
  unfold M.ref12_wrong
  refine Wp.seq (fun _ => True) ?_ fun j _ => Wp.ite (fun _ => .some trivial) fun _ => Wp.seq (fun _ => True) ?_ fun _ _ => .some trivial
  · refine Wp.seq _ (rvalid_wp ..) fun _ _ => Wp.ite (fun _ => .some trivial) fun _ => Wp.ite (fun _ => .some trivial) fun _ => .some trivial
  · refine Wp.seq _ (in_wp ..) fun _ _ => Wp.ite (fun _ => .some trivial) fun _ => Wp.seq _ (in_wp ..) fun _ _ => Wp.ite (fun _ => .some trivial) fun _ => Wp.seq _ (in_wp ..) fun _ _ => .some trivial
theorem validate_wp (T : rTable.den) (E : List rEnum.den) : Wp (M.ref12_Validate big T E) fun _ => True := by
  unfold M.ref12_Validate
  refine Wp.dec (fun _ => .some trivial) fun hl => ?_
  simp only [valid_ref, Option.bind_some, ite_some]
  refine Wp.ite (fun _ => .some trivial) fun _ => ?_
  refine Wp.loop (fun q : Int => ∃ k : Nat, q = k ∧ k ≤ T.2.2.2.length) (fun q => (T.2.2.2.length - q).toNat) ⟨0, rfl, Nat.zero_le _⟩ (by unfold big; omega) ?_
  rintro _ ⟨k, rfl, hk⟩
  refine Wp.dec (fun h => ?_) fun _ => .some trivial
  have hk' : k < T.2.2.2.length := by omega
  rw [idx_nat hk', wrap_succ (by omega)]
  simp only [Option.bind_some]
  refine Wp.join (Wp.seq _ (wrong_wp ..) fun y _ => Wp.ite (fun _ => .some trivial) fun _ => ?_)
  refine Wp.loop (fun q : Int => ∃ i : Nat, q = i ∧ i ≤ k) (fun q => (k - q).toNat) ⟨0, rfl, Nat.zero_le _⟩ (by unfold big; omega) ?_
  rintro _ ⟨i, rfl, hi⟩
  refine Wp.dec (fun h => ?_) fun _ => .some ?_
  · rw [idx_nat (show i < T.2.2.2.length by omega), wrap_succ (by omega)]
    simp only [Option.bind_some]
    refine Wp.seq _ (conflict_wp ..) fun y _ => .some ?_
    split
    · exact trivial
    · exact ⟨⟨i + 1, rfl, by omega⟩, by simp only; omega⟩
  · exact .some ⟨⟨k + 1, rfl, hk'⟩, by simp only; omega⟩
end L
end Go.Proofs.YtbmkhjdoalnkmaaDoor
