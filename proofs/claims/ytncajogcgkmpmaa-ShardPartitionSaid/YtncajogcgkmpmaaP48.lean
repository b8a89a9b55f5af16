/- Chapter 48: what the models compute (plain laws). -/
import Derived.Test.YtncajogcgkmpmaaModel
import Derived.Test.YtncajogcgkmpmaaPlain
import Derived.Test.YtncajogcgkmpmaaOpen
namespace Go.Proofs.Ytncajogcgkmpmaa
open Go Go.RowKit
namespace L

/-! ## Of -/
def of (h n : Int) : Int := if ((decide (n < 1) || decide (65536 < n)) || decide (h < 0)) = true then 0 else (h % 1048576 * 40503 % 65536 * n) / 65536
theorem Of_eq (N : Nat) (h n : Int) : M.shard_Of N h n = some (of h n) := by
  unfold M.shard_Of of
  split
  · rfl
  · rename_i hc
    simp only [Bool.or_eq_true, decide_eq_true_eq, not_or] at hc
    have e1 : Int.tmod h 1048576 = h % 1048576 := Int.tmod_eq_emod_of_nonneg (by omega)
    have h1 : 0 ≤ h % 1048576 ∧ h % 1048576 < 1048576 := by omega
    rw [e1, wrap_id (n := h % 1048576 * 40503) (by omega) (by omega)]
    have e2 : Int.tmod (h % 1048576 * 40503) 65536 = h % 1048576 * 40503 % 65536 := Int.tmod_eq_emod_of_nonneg (by omega)
    rw [e2]
    have h2 : 0 ≤ h % 1048576 * 40503 % 65536 ∧ h % 1048576 * 40503 % 65536 < 65536 := by omega
    generalize h % 1048576 * 40503 % 65536 = q at *
    have h3 : 0 ≤ q * n := Int.mul_nonneg h2.1 (by omega)
    have h4 : q * n ≤ 65536 * 65536 := Int.mul_le_mul (by omega) (by omega) (by omega) (by omega)
    rw [wrap_id (n := q * n) (by omega) (by omega), Int.tdiv_eq_ediv_of_nonneg h3, wrap_id (by omega) (by omega)]
theorem ref_Of_eq (N : Nat) (h n : Int) : M.ref48_Of N h n = some (of h n) := Of_eq N h n
theorem of_range {h n : Int} (h1 : 1 ≤ n) (h2 : n ≤ 65536) : 0 ≤ of h n ∧ of h n < n := by
  unfold of
  split
  · omega
  · have hq : 0 ≤ h % 1048576 * 40503 % 65536 ∧ h % 1048576 * 40503 % 65536 < 65536 := by omega
    generalize h % 1048576 * 40503 % 65536 = q at *
    have h3 : 0 ≤ q * n := Int.mul_nonneg hq.1 (by omega)
    have h4 : q * n < 65536 * n := Int.mul_lt_mul_of_pos_right hq.2 (by omega)
    omega

set_option maxRecDepth 100000 in
theorem awake_true : M.law48_awake big = some true := by kernel_rfl

theorem ShardOf_true (h n : Int) (_ : WF rInt h) (_ : WF rInt n) : M.law48_ShardOf big h n = some true := by
  have ha := awake_true
  have hk : ∀ y, y = of h n → M.law48_ShardOf_k1 big h n y = some true := by
    rintro y rfl
    unfold M.law48_ShardOf_k1
    rw [ref_Of_eq, Option.bind_some, if_pos (by simp), ha]
    rfl
  unfold M.law48_ShardOf
  rw [Of_eq, Option.bind_some]
  by_cases h1 : 1 ≤ n
  · rw [if_pos (by simpa using h1)]
    by_cases h2 : n ≤ 65536
    · have := of_range (h := h) h1 h2
      rw [if_pos (by simpa using h2), if_neg (by simp; omega), if_neg (by simp; omega), hk _ rfl]
    · rw [if_neg (by simpa using h2), hk _ rfl]
  · rw [if_neg (by simpa using h1), hk _ rfl]

/-! ## Partition -/
abbrev Ac : Type := (Int × Int × Int × List (rFact.den)) × List (rPosting.den) × List (rAppeal.den) × Int × Int
def zac : Ac := ((0, 0, 0, []), [], [], 0, 0)
def hh (l : List Ac) (j : Nat) : Int := (l.getD j zac).1.1
/-- The indices below i of shard k. -/
def own (l : List Ac) (n : Int) (i : Nat) (k : Nat) : List Int := ((List.range i).filter fun j => decide (of (hh l j) n = k)).map fun j : Nat => (j : Int)
def parts (l : List Ac) (n : Int) : List (List Int) := if (decide (n < 1) || decide (8 < n)) = true then [] else (List.range n.toNat).map (own l n l.length)

theorem hh_get {l : List Ac} {j : Nat} (h : j < l.length) : hh l j = l[j].1.1 := by
  unfold hh
  rw [List.getD_eq_getElem?_getD, List.getElem?_eq_getElem h]
  rfl
theorem own_length (l : List Ac) (n : Int) (i k : Nat) : (own l n i k).length ≤ i := by
  unfold own
  have := List.length_filter_le (fun j => decide (of (hh l j) n = k)) (List.range i)
  simpa using this
theorem own_succ (l : List Ac) (n : Int) (i k : Nat) : own l n (i + 1) k = if of (hh l i) n = k then own l n i k ++ [(i : Int)] else own l n i k := by
  unfold own
  rw [filter_range_succ]
  by_cases h : of (hh l i) n = k
  · rw [if_pos (by simpa using h), if_pos h]; simp
  · rw [if_neg (by simpa using h), if_neg h]; simp

theorem Partition_eq {N : Nat} (l : List Ac) (n : Int) (hl : l.length ≤ 1000000) (hN : 10000000 ≤ N) : M.shard_Partition N l n = some (parts l n) := by
  unfold M.shard_Partition parts
  split
  · rfl
  · rename_i hc
    simp only [Bool.or_eq_true, decide_eq_true_eq, not_or] at hc
    have hmk : mkL n ([] : List Int) = some (List.replicate n.toNat []) := by unfold mkL; rw [if_pos (by omega)]
    rw [hmk, Option.bind_some]
    have hloop : Loop (S := List (List Int) × Int) (X := List (List Int)) (fun s => M.shard_Partition_k2 N l n s.1 s.2) N (List.replicate n.toNat [], 0) = some ((List.range n.toNat).map (own l n l.length)) := by
      have h0 : (List.replicate n.toNat ([] : List Int), (0 : Int)) = (fun i : Nat => ((List.range n.toNat).map (own l n i), (i : Int))) 0 := by
        show _ = ((List.range n.toNat).map (fun _ => ([] : List Int)), (0 : Int))
        rw [List.map_const', List.length_range]
      rw [h0]
      refine Loop_count (fun i : Nat => ((List.range n.toNat).map (own l n i), (i : Int))) l.length ?_ ?_ (by omega)
      · intro i hi
        have hw : IntKind.i64.wrap ((i : Int) + 1) = ((i + 1 : Nat) : Int) := by rw [wrap_id] <;> omega
        simp only [M.shard_Partition_k2]
        rw [if_pos (by simpa using hi), idx_nat hi, Option.bind_some, Of_eq, Option.bind_some, ← hh_get hi]
        have hr := of_range (h := hh l i) (n := n) (by omega) (by omega)
        obtain ⟨k, hk⟩ := Int.eq_ofNat_of_zero_le hr.1
        have hkn : k < n.toNat := by omega
        rw [hk, idx_nat (by simpa using hkn), Option.bind_some]
        simp only [List.getElem_map, List.getElem_range]
        rw [appA_some (by have := own_length l n i k; simp; omega), Option.bind_some]
        unfold setL
        rw [Int.toNat_natCast, set_map_range, idx_nat (by simpa using hkn), Option.bind_some, hw]
        refine congrArg (fun L : List (List Int) => some (Sum.inl (L, ((i + 1 : Nat) : Int)))) (List.map_congr_left fun j _ => ?_)
        rw [own_succ, hk]
        by_cases hj : j = k
        · subst hj; simp
        · rw [if_neg hj, if_neg (by omega)]
      · simp only [M.shard_Partition_k2]
        rw [if_neg (by simp)]
    rw [hloop]
    rfl

theorem ref_Partition_eq {N : Nat} (l : List Ac) (n : Int) (hl : l.length ≤ 1000000) (hN : 10000000 ≤ N) : M.ref48_Partition N l n = some (parts l n) := by
  unfold M.ref48_Partition parts
  split
  · rfl
  · rename_i hc
    simp only [Bool.or_eq_true, decide_eq_true_eq, not_or] at hc
    have hloop : Loop (S := List (List Int) × Int) (X := List (List Int)) (fun s => M.ref48_Partition_k2 N l n s.1 s.2) N ([], 0) = some ((List.range n.toNat).map (own l n l.length)) := by
      have h0 : (([] : List (List Int)), (0 : Int)) = (fun k : Nat => ((List.range k).map (own l n l.length), (k : Int))) 0 := rfl
      rw [h0]
      refine Loop_count (fun k : Nat => ((List.range k).map (own l n l.length), (k : Int))) n.toNat ?_ ?_ (by omega)
      · intro k hk
        have hw : IntKind.i64.wrap ((k : Int) + 1) = ((k + 1 : Nat) : Int) := by rw [wrap_id] <;> omega
        simp only [M.ref48_Partition_k2]
        rw [if_pos (by simp; omega)]
        have hin : Loop (S := List Int × Int) (X := List Int) (fun s => M.ref48_Partition_k4 N l n (k : Int) s.1 s.2) N ([], 0) = some (own l n l.length k) := by
          have h1 : (([] : List Int), (0 : Int)) = (fun i : Nat => (own l n i k, (i : Int))) 0 := rfl
          rw [h1]
          refine Loop_count (fun i : Nat => (own l n i k, (i : Int))) l.length ?_ ?_ (by omega)
          · intro i hi
            have hw : IntKind.i64.wrap ((i : Int) + 1) = ((i + 1 : Nat) : Int) := by rw [wrap_id] <;> omega
            simp only [M.ref48_Partition_k4]
            rw [if_pos (by simpa using hi), idx_nat hi, Option.bind_some, ref_Of_eq, Option.bind_some, ← hh_get hi, hw, own_succ]
            by_cases h : of (hh l i) n = k
            · rw [if_pos (by simpa using h), if_pos h, appA_some (by have := own_length l n i k; simp; omega), Option.bind_some]
            · rw [if_neg (by simpa using h), if_neg h]
          · simp only [M.ref48_Partition_k4]
            rw [if_neg (by simp)]
        rw [hin, Option.bind_some]
        simp only [M.ref48_Partition_k3, hw]
        rw [appA_some (by simp; omega), Option.bind_some, List.range_succ, List.map_append]
        rfl
      · simp only [M.ref48_Partition_k2]
        rw [if_neg (by simp; omega)]
    rw [hloop]
    rfl

theorem Ints_refl {N : Nat} (l : List Int) (hl : l.length < N) (hl2 : l.length ≤ 4294967296) : M.same_Ints N l l = some true := by
  unfold M.same_Ints
  rw [if_neg (by simp)]
  have : Loop (S := Int) (X := Unit ⊕ Bool) (fun s => M.same_Ints_k2 N l l s) N 0 = some (.inl ()) := by
    refine Loop_count (fun i : Nat => (i : Int)) l.length ?_ ?_ hl
    · intro i hi
      have hw : IntKind.i64.wrap ((i : Int) + 1) = ((i + 1 : Nat) : Int) := by rw [wrap_id] <;> omega
      simp only [M.same_Ints_k2, M.same_Ints_k3]
      rw [if_pos (by simpa using hi), if_pos (by simpa using hi), idx_nat hi]
      simp [hw]
    · simp only [M.same_Ints_k2]
      rw [if_neg (by simp)]
  rw [this]
  rfl
theorem IntLists_refl {N : Nat} (l : List (List Int)) (hl : l.length < N) (hl2 : l.length ≤ 4294967296) (he : ∀ x ∈ l, x.length < N ∧ x.length ≤ 4294967296) : M.same_IntLists N l l = some true := by
  unfold M.same_IntLists
  rw [if_neg (by simp)]
  have : Loop (S := Int) (X := Unit ⊕ Bool) (fun s => M.same_IntLists_k2 N l l s) N 0 = some (.inl ()) := by
    refine Loop_count (fun i : Nat => (i : Int)) l.length ?_ ?_ hl
    · intro i hi
      have hw : IntKind.i64.wrap ((i : Int) + 1) = ((i + 1 : Nat) : Int) := by rw [wrap_id] <;> omega
      simp only [M.same_IntLists_k2, M.same_IntLists_k3]
      have := he l[i] (List.getElem_mem hi)
      rw [if_pos (by simpa using hi), if_pos (by simpa using hi), idx_nat hi, Option.bind_some, Option.bind_some, Ints_refl _ this.1 this.2]
      simp [hw]
    · simp only [M.same_IntLists_k2]
      rw [if_neg (by simp)]
  rw [this]
  rfl

/-! ## accounts -/
def mkA (id : Int) (j : Nat) : Ac := ((id, 0, 0, []), [], [], (j : Int), 0)
def accs (ids : List Int) : List Ac := (List.range ids.length).map fun j => mkA (ids.getD j 0) j
theorem accounts_eq {N : Nat} (ids : List Int) (hl : ids.length ≤ 1000000) (hN : 10000000 ≤ N) : M.law48_accounts N ids = some (accs ids) := by
  unfold M.law48_accounts
  have hmk : mkL (ids.length : Int) (((0 : Int), (0 : Int), (0 : Int), ([] : List rFact.den)), ([] : List rPosting.den), ([] : List rAppeal.den), (0 : Int), (0 : Int)) = some (List.replicate ids.length zac) := by
    unfold mkL; rw [if_pos (by omega), Int.toNat_natCast]; rfl
  rw [hmk, Option.bind_some]
  have hloop : Loop (S := List Ac × Int) (X := List Ac) (fun s => M.law48_accounts_k2 N ids s.1 s.2) N (List.replicate ids.length zac, 0) = some (accs ids) := by
    have h0 : (List.replicate ids.length zac, (0 : Int)) = (fun i : Nat => ((List.range ids.length).map (fun j => if j < i then mkA (ids.getD j 0) j else zac), (i : Int))) 0 := by
      simp only [Nat.not_lt_zero, if_false, List.map_const', List.length_range]; rfl
    rw [h0]
    refine Loop_count (fun i : Nat => ((List.range ids.length).map (fun j => if j < i then mkA (ids.getD j 0) j else zac), (i : Int))) ids.length ?_ ?_ (by omega)
    · intro i hi
      have hw : IntKind.i64.wrap ((i : Int) + 1) = ((i + 1 : Nat) : Int) := by rw [wrap_id] <;> omega
      simp only [M.law48_accounts_k2]
      rw [if_pos (by simpa using hi), idx_nat hi, Option.bind_some, idx_nat (by simpa using hi), Option.bind_some]
      unfold setL
      simp only [Int.toNat_natCast, set_map_range]
      rw [idx_nat (by simpa using hi), Option.bind_some, hw]
      simp only [List.getElem_map, List.getElem_range, Nat.lt_irrefl, if_false, if_true]
      refine congrArg (fun L : List Ac => some (Sum.inl (L, ((i + 1 : Nat) : Int)))) (List.map_congr_left fun j _ => ?_)
      by_cases hj : j = i
      · subst hj
        rw [if_pos rfl, if_pos (by omega), List.getD_eq_getElem?_getD, List.getElem?_eq_getElem hi]
        rfl
      · rw [if_neg hj, if_neg hj]
        by_cases hji : j < i
        · rw [if_pos hji, if_pos (by omega)]
        · rw [if_neg hji, if_neg (by omega)]
    · simp only [M.law48_accounts_k2]
      rw [if_neg (by simp)]
      refine congrArg (fun L : List Ac => some (Sum.inr L)) (List.map_congr_left fun j hj => ?_)
      rw [if_pos (by simpa using hj)]
  rw [hloop]
  rfl

theorem parts_small (l : List Ac) (n : Int) : (parts l n).length ≤ 8 ∧ ∀ x ∈ parts l n, x.length ≤ l.length := by
  unfold parts
  split
  · simp
  · rename_i hc
    simp only [Bool.or_eq_true, decide_eq_true_eq, not_or] at hc
    refine ⟨by simp; omega, fun x hx => ?_⟩
    obtain ⟨k, _, rfl⟩ := List.mem_map.1 hx
    exact own_length l n _ k

theorem ShardLists_true (ids : List Int) (n : Int) (_ : WF (.slice rInt) ids) (_ : WF rInt n) : M.law48_ShardLists big ids n = some true := by
  have ha := awake_true
  have hN : 10000000 ≤ big := by decide
  unfold M.law48_ShardLists
  by_cases h : (200 : Int) < (ids.length : Int)
  · rw [if_pos (by simpa using h), ha]; rfl
  · have hal : (accs ids).length = ids.length := by simp [accs]
    have hp := parts_small (accs ids) n
    rw [if_neg (by simpa using h), accounts_eq ids (by omega) hN, Option.bind_some, Partition_eq _ n (by omega) hN, Option.bind_some, ref_Partition_eq _ n (by omega) hN, Option.bind_some,
      IntLists_refl _ (by omega) (by omega) (fun x hx => by have := hp.2 x hx; omega), Option.bind_some, if_pos rfl, ha]
    rfl

/-! ## Merge -/
theorem list_refl {α : Type} {N : Nat} {k2 : Nat → List α → List α → Int → Option (Int ⊕ (Unit ⊕ Bool))} (l : List α) (hN : l.length < N)
    (hin : ∀ i : Nat, i < l.length → k2 N l l (i : Int) = some (.inl ((i + 1 : Nat) : Int))) (hout : k2 N l l (l.length : Int) = some (.inr (.inl ()))) :
    Loop (S := Int) (X := Unit ⊕ Bool) (fun s => k2 N l l s) N 0 = some (.inl ()) :=
  Loop_count (fun i : Nat => (i : Int)) l.length (fun i hi => hin i hi) hout hN

theorem wrap_succ {i : Nat} (h : i ≤ 1000000000) : IntKind.i64.wrap ((i : Int) + 1) = ((i + 1 : Nat) : Int) := by rw [wrap_id] <;> omega

def SA (a : Ac) : Prop := a.1.2.2.2.length ≤ 1048576 ∧ a.2.1.length ≤ 1048576 ∧ a.2.2.1.length ≤ 1048576

theorem Facts_refl {N : Nat} (l : List rFact.den) (hl : l.length ≤ 1048576) (hN : 10000000 ≤ N) : M.same_Facts N l l = some true := by
  unfold M.same_Facts
  rw [if_neg (by simp), list_refl (k2 := M.same_Facts_k2) l (by omega)]
  · rfl
  · intro i hi
    simp only [M.same_Facts_k2, M.same_Facts_k3]
    rw [if_pos (by simpa using hi), if_pos (by simpa using hi), idx_nat hi, Option.bind_some, Option.bind_some, wrap_succ (by omega), eqR_iff.2 rfl]
    rfl
  · simp only [M.same_Facts_k2]
    rw [if_neg (by simp)]
theorem Postings_refl {N : Nat} (l : List rPosting.den) (hl : l.length ≤ 1048576) (hN : 10000000 ≤ N) : M.same_Postings N l l = some true := by
  unfold M.same_Postings
  rw [if_neg (by simp), list_refl (k2 := M.same_Postings_k2) l (by omega)]
  · rfl
  · intro i hi
    simp only [M.same_Postings_k2, M.same_Postings_k3]
    rw [if_pos (by simpa using hi), if_pos (by simpa using hi), idx_nat hi, Option.bind_some, Option.bind_some, wrap_succ (by omega), eqR_iff.2 rfl]
    rfl
  · simp only [M.same_Postings_k2]
    rw [if_neg (by simp)]
theorem Appeals_refl {N : Nat} (l : List rAppeal.den) (hl : l.length ≤ 1048576) (hN : 10000000 ≤ N) : M.same_Appeals N l l = some true := by
  unfold M.same_Appeals
  rw [if_neg (by simp), list_refl (k2 := M.same_Appeals_k2) l (by omega)]
  · rfl
  · intro i hi
    simp only [M.same_Appeals_k2, M.same_Appeals_k3]
    rw [if_pos (by simpa using hi), if_pos (by simpa using hi), idx_nat hi, Option.bind_some, Option.bind_some, wrap_succ (by omega), eqR_iff.2 rfl]
    rfl
  · simp only [M.same_Appeals_k2]
    rw [if_neg (by simp)]
theorem Account_refl {N : Nat} (a : Ac) (ha : SA a) (hN : 10000000 ≤ N) : M.same_Account N a a = some true := by
  unfold M.same_Account M.same_Household
  rw [if_pos (by simp), if_pos (by simp), if_pos (by simp), Facts_refl _ ha.1 hN, Option.bind_some, Option.bind_some, if_pos rfl, Postings_refl _ ha.2.1 hN, Option.bind_some, if_pos rfl, Appeals_refl _ ha.2.2 hN, Option.bind_some, if_pos rfl, if_pos (by simp)]
  simp
theorem Accounts_refl {N : Nat} (l : List Ac) (hl : l.length ≤ 1048576) (he : ∀ x ∈ l, SA x) (hN : 10000000 ≤ N) : M.same_Accounts N l l = some true := by
  unfold M.same_Accounts
  rw [if_neg (by simp), list_refl (k2 := M.same_Accounts_k2) l (by omega)]
  · rfl
  · intro i hi
    simp only [M.same_Accounts_k2, M.same_Accounts_k3]
    rw [if_pos (by simpa using hi), if_pos (by simpa using hi), idx_nat hi, Option.bind_some, Option.bind_some, wrap_succ (by omega), Account_refl _ (he _ (List.getElem_mem hi)) hN]
    rfl
  · simp only [M.same_Accounts_k2]
    rw [if_neg (by simp)]

theorem clone_eq (N : Nat) (a : Ac) (ha : SA a) : M.shard_clone N a = some a := by
  unfold M.shard_clone
  have h1 := ha.1
  have h2 := ha.2.1
  have h3 := ha.2.2
  rw [appA_some (by simp; omega), Option.bind_some, appA_some (by simp; omega), Option.bind_some, appA_some (by simp; omega), Option.bind_some]
  simp

theorem all_set {p : Ac → Prop} {c : List Ac} (hc : ∀ x ∈ c, p x) {i : Nat} {y : Ac} (hy : p y) : ∀ x ∈ c.set i y, p x := by
  intro x hx
  rcases List.mem_or_eq_of_mem_set hx with h | h
  · exact hc x h
  · exact h ▸ hy

/-- The rounds over one list. -/
theorem round_ok {N : Nat} {parts : List (List Int)} {done : List (List Ac)} {k : Nat} (hk : k < parts.length) (hk' : k < done.length) (c : List Ac) (hp : parts[k].length ≤ 1048576) (hd : ∀ x ∈ done[k], SA x) (hc : ∀ x ∈ c, SA x) (hN : 10000000 ≤ N) :
    ∃ c', Loop (S := List Ac × Int) (X := List Ac) (fun s => M.shard_Merge_k5 N parts done (k : Int) s.1 s.2) N (c, 0) = some c' ∧ c'.length = c.length ∧ ∀ x ∈ c', SA x := by
  obtain ⟨x, hx, hq⟩ := Loop_rule (S := List Ac × Int) (X := List Ac) (body := fun s => M.shard_Merge_k5 N parts done (k : Int) s.1 s.2)
    (fun s => ∃ j : Nat, s.2 = (j : Int) ∧ j ≤ parts[k].length ∧ s.1.length = c.length ∧ ∀ x ∈ s.1, SA x) (fun s => parts[k].length - s.2.toNat) (fun c' => c'.length = c.length ∧ ∀ x ∈ c', SA x) (by
      rintro ⟨c1, _⟩ ⟨j, rfl, hj, hl, hall⟩
      simp only at hl hall
      simp only [M.shard_Merge_k5]
      rw [idx_nat hk, Option.bind_some]
      by_cases h1 : j < parts[k].length
      · rw [if_pos (by simpa using h1), idx_nat hk', Option.bind_some]
        by_cases h2 : j < done[k].length
        · rw [if_pos (by simpa using h2)]
          simp only [M.shard_Merge_k6]
          rw [idx_nat hk, Option.bind_some, idx_nat h1, Option.bind_some]
          have hw := wrap_succ (i := j) (by omega)
          by_cases h3 : 0 ≤ parts[k][j] ∧ parts[k][j] < (c1.length : Int)
          · rw [if_pos (by simpa using h3.1)]
            obtain ⟨q, hq⟩ := Int.eq_ofNat_of_zero_le h3.1
            rw [hq] at h3 ⊢
            have hqc : q < c1.length := by omega
            simp only [M.shard_Merge_k7]
            rw [if_pos (by simpa using hqc), idx_nat hk', Option.bind_some, idx_nat h2, Option.bind_some, idx_nat hqc, Option.bind_some, hw]
            refine Or.inl ⟨_, rfl, ⟨j + 1, rfl, by omega, ?_, ?_⟩, ?_⟩
            · simp [setL, hl]
            · simp only [setL, Int.toNat_natCast]
              exact all_set hall (hd _ (List.getElem_mem h2))
            · simp only [Int.toNat_natCast]; omega
          · refine Or.inl ⟨(c1, ((j + 1 : Nat) : Int)), ?_, ⟨j + 1, rfl, by omega, hl, hall⟩, ?_⟩
            · by_cases h4 : 0 ≤ parts[k][j]
              · rw [if_pos (by simpa using h4)]
                simp only [M.shard_Merge_k7]
                rw [if_neg (by simpa using fun h5 => h3 ⟨h4, h5⟩), hw]
              · rw [if_neg (by simpa using h4)]
                simp only [M.shard_Merge_k7]
                rw [if_neg (by simp), hw]
            · simp only [Int.toNat_natCast]; omega
        · rw [if_neg (by simpa using h2)]
          exact Or.inr ⟨c1, rfl, hl, hall⟩
      · rw [if_neg (by simpa using h1)]
        exact Or.inr ⟨c1, rfl, hl, hall⟩) N (c, 0) ⟨0, rfl, by omega, rfl, hc⟩ (by simp; omega)
  exact ⟨x, hx, hq⟩

theorem chosen_ok {N : Nat} {parts : List (List Int)} {done : List (List Ac)} (c : List Ac) (hpl : parts.length ≤ 1048576) (hp : ∀ x ∈ parts, x.length ≤ 1048576) (hd : ∀ d ∈ done, ∀ x ∈ d, SA x) (hc : ∀ x ∈ c, SA x) (hcl : c.length ≤ 1048576) (hN : 10000000 ≤ N) :
    ∃ c', Loop (S := List Ac × Int) (X := List Ac) (fun s => M.shard_Merge_k2 N parts done s.1 s.2) N (c, 0) = some c' ∧ c'.length = c.length ∧ ∀ x ∈ c', SA x := by
  obtain ⟨x, hx, hq⟩ := Loop_rule (S := List Ac × Int) (X := List Ac) (body := fun s => M.shard_Merge_k2 N parts done s.1 s.2)
    (fun s => ∃ j : Nat, s.2 = (j : Int) ∧ j ≤ parts.length ∧ s.1.length = c.length ∧ ∀ x ∈ s.1, SA x) (fun s => parts.length - s.2.toNat) (fun c' => c'.length = c.length ∧ ∀ x ∈ c', SA x) (by
      rintro ⟨c1, _⟩ ⟨j, rfl, hj, hl, hall⟩
      simp only at hl hall
      simp only [M.shard_Merge_k2]
      by_cases h1 : j < parts.length
      · rw [if_pos (by simpa using h1)]
        by_cases h2 : j < done.length
        · rw [if_pos (by simpa using h2)]
          obtain ⟨c2, e2, l2, a2⟩ := round_ok (N := N) h1 h2 c1 (hp _ (List.getElem_mem h1)) (hd _ (List.getElem_mem h2)) hall hN
          simp only [M.shard_Merge_k3]
          rw [e2, Option.bind_some]
          simp only [M.shard_Merge_k4]
          rw [wrap_succ (by omega)]
          exact Or.inl ⟨_, rfl, ⟨j + 1, rfl, by omega, by rw [l2, hl], a2⟩, by simp only [Int.toNat_natCast]; omega⟩
        · rw [if_neg (by simpa using h2)]
          exact Or.inr ⟨c1, rfl, hl, hall⟩
      · rw [if_neg (by simpa using h1)]
        exact Or.inr ⟨c1, rfl, hl, hall⟩) N (c, 0) ⟨0, rfl, by omega, rfl, hc⟩ (by simp; omega)
  exact ⟨x, hx, hq⟩

theorem Merge_both {N : Nat} {parts : List (List Int)} {done : List (List Ac)} (l : List Ac) (hpl : parts.length ≤ 1048576) (hp : ∀ x ∈ parts, x.length ≤ 1048576) (hd : ∀ d ∈ done, ∀ x ∈ d, SA x) (hc : ∀ x ∈ l, SA x) (hcl : l.length ≤ 1048576) (hN : 10000000 ≤ N) :
    ∃ c, M.shard_Merge N l parts done = some c ∧ M.ref48_Merge N l parts done = some c ∧ c.length = l.length ∧ (∀ x ∈ c, SA x) ∧
      (l ≠ [] → Loop (S := List Ac × Int) (X := List Ac) (fun s => M.shard_Merge_k2 N parts done s.1 s.2) N (l, 0) = some c) := by
  obtain ⟨c, e, hl, ha⟩ := chosen_ok (N := N) l hpl hp hd hc hcl hN
  have hr : M.ref48_Merge N l parts done = some c := by
    unfold M.ref48_Merge
    rw [appA_some (by simp; omega), Option.bind_some, List.nil_append]
    have e' : Loop (S := List Ac × Int) (X := List Ac) (fun s => M.ref48_Merge_k2 N parts done s.1 s.2) N (l, 0) = some c := e
    rw [e']
    rfl
  refine ⟨c, ?_, hr, hl, ha, fun _ => e⟩
  unfold M.shard_Merge
  by_cases h0 : l.length = 0
  · rw [if_pos (by simpa using h0)]
    have : c = [] := List.length_eq_zero_iff.1 (by omega)
    rw [this]
  · rw [if_neg (by simpa using h0), appA_some (by simp; omega), Option.bind_some, List.nil_append, e, Option.bind_some]
    unfold M.shard_Merge_k1
    have : Loop (S := List Ac × Int) (X := List Ac) (fun s => M.shard_Merge_k9 N c s.1 s.2) N (c, 0) = some c := by
      refine Loop_count (fun i : Nat => (c, (i : Int))) c.length ?_ ?_ (by omega)
      · intro i hi
        simp only [M.shard_Merge_k9]
        rw [if_pos (by simpa using hi), idx_nat hi, Option.bind_some, clone_eq N _ (ha _ (List.getElem_mem hi)), Option.bind_some, Option.bind_some, wrap_succ (by omega)]
        unfold setL
        rw [Int.toNat_natCast, List.set_getElem_self]
      · simp only [M.shard_Merge_k9]
        rw [if_neg (by simp)]
    rw [this]
    rfl

theorem Light_some {N : Nat} (l : List Ac) (parts : List (List Int)) (done : List (List Ac)) (h1 : parts.length ≤ 1048576) (h2 : done.length ≤ 1048576) (hN : 10000000 ≤ N) : ∃ b, M.ref48_Light N l parts done = some b := by
  have hA : ∃ x, Loop (S := Int) (X := Unit ⊕ Bool) (fun s => M.ref48_Light_k3 N parts s) N 0 = some x ∧ True :=
    Loop_rule (S := Int) (X := Unit ⊕ Bool) (body := fun s => M.ref48_Light_k3 N parts s) (fun s => ∃ j : Nat, s = (j : Int) ∧ j ≤ parts.length) (fun s => parts.length - s.toNat) (fun _ => True) (by
      rintro _ ⟨j, rfl, hj⟩
      simp only [M.ref48_Light_k3]
      by_cases h : j < parts.length
      · rw [if_pos (by simpa using h), idx_nat h, Option.bind_some]
        split
        · exact Or.inr ⟨_, rfl, trivial⟩
        · rw [wrap_succ (by omega)]
          exact Or.inl ⟨_, rfl, ⟨j + 1, rfl, by omega⟩, by simp only [Int.toNat_natCast]; omega⟩
      · rw [if_neg (by simpa using h)]
        exact Or.inr ⟨_, rfl, trivial⟩) N 0 ⟨0, rfl, by omega⟩ (by simp; omega)
  have hB : ∃ x, Loop (S := Int) (X := Unit ⊕ Bool) (fun s => M.ref48_Light_k5 N done s) N 0 = some x ∧ True :=
    Loop_rule (S := Int) (X := Unit ⊕ Bool) (body := fun s => M.ref48_Light_k5 N done s) (fun s => ∃ j : Nat, s = (j : Int) ∧ j ≤ done.length) (fun s => done.length - s.toNat) (fun _ => True) (by
      rintro _ ⟨j, rfl, hj⟩
      simp only [M.ref48_Light_k5]
      by_cases h : j < done.length
      · rw [if_pos (by simpa using h), idx_nat h, Option.bind_some]
        split
        · exact Or.inr ⟨_, rfl, trivial⟩
        · rw [wrap_succ (by omega)]
          exact Or.inl ⟨_, rfl, ⟨j + 1, rfl, by omega⟩, by simp only [Int.toNat_natCast]; omega⟩
      · rw [if_neg (by simpa using h)]
        exact Or.inr ⟨_, rfl, trivial⟩) N 0 ⟨0, rfl, by omega⟩ (by simp; omega)
  obtain ⟨x, hx, _⟩ := hA
  obtain ⟨y, hy, _⟩ := hB
  unfold M.ref48_Light
  split
  · exact ⟨_, rfl⟩
  · split
    · exact ⟨_, rfl⟩
    · split
      · exact ⟨_, rfl⟩
      · unfold M.ref48_Light_k1
        rw [hx, Option.bind_some]
        cases x with
        | inr b => exact ⟨_, rfl⟩
        | inl u =>
          rw [Sum.elim_inl]
          unfold M.ref48_Light_k2
          rw [hy, Option.bind_some]
          cases y with
          | inr b => exact ⟨_, rfl⟩
          | inl u => exact ⟨_, rfl⟩

theorem bulk_mem {e : Row} {l : List e.den} {x : e.den} (h : x ∈ l) : bulk e x ≤ bulk (.slice e) l := by
  have := le_sum_of_mem (bulk e) h
  simp only [bulk]
  omega
theorem SA_of_bulk {a : Ac} (h : bulk rAccount a ≤ 1048576) : SA a := by
  obtain ⟨⟨i1, i2, i3, f⟩, p, q, d1, d2⟩ := a
  have h1 := length_le_bulk (e := rFact) f
  have h2 := length_le_bulk (e := rPosting) p
  have h3 := length_le_bulk (e := rAppeal) q
  simp only [bulk] at h h1 h2 h3
  unfold SA
  simp only
  omega

theorem ShardMerge_true (l : List Ac) (parts : List (List Int)) (done : List (List Ac)) (_ : WF (.slice rAccount) l) (_ : WF (.slice (.slice rInt)) parts) (_ : WF (.slice (.slice rAccount)) done)
    (hb : bulk (.slice rAccount) l + bulk (.slice (.slice rInt)) parts + bulk (.slice (.slice rAccount)) done ≤ 1048576) : M.law48_ShardMerge big l parts done = some true := by
  have ha := awake_true
  have hN : 10000000 ≤ big := by decide
  have l1 := length_le_bulk (e := rAccount) l
  have l2 := length_le_bulk (e := .slice rInt) parts
  have l3 := length_le_bulk (e := .slice rAccount) done
  obtain ⟨b, hL⟩ := Light_some (N := big) l parts done (by omega) (by omega) hN
  unfold M.law48_ShardMerge
  rw [hL, Option.bind_some]
  cases b
  · rw [if_pos (by simp), ha]; rfl
  · obtain ⟨c, h1, h2, h3, h4, _⟩ := Merge_both (N := big) (parts := parts) (done := done) l (by omega)
      (fun x hx => by have e1 := bulk_mem (e := .slice rInt) hx; have e2 := length_le_bulk (e := rInt) x; omega)
      (fun d hd x hx => SA_of_bulk (by have e1 := bulk_mem (e := .slice rAccount) hd; have e2 := bulk_mem (e := rAccount) hx; omega))
      (fun x hx => SA_of_bulk (by have e2 := bulk_mem (e := rAccount) hx; omega)) (by omega) hN
    rw [if_neg (by simp), h1, Option.bind_some, h2, Option.bind_some, Accounts_refl c (by omega) h4 hN, Option.bind_some, if_pos rfl, ha]
    rfl

/-! ## Every account in one shard -/
theorem own_mem {l : List Ac} {n : Int} {i k : Nat} {x : Int} : x ∈ own l n i k ↔ ∃ j : Nat, j < i ∧ x = (j : Int) ∧ of (hh l j) n = k := by
  unfold own
  simp only [List.mem_map, List.mem_filter, List.mem_range, decide_eq_true_eq]
  constructor
  · rintro ⟨j, ⟨h1, h2⟩, rfl⟩; exact ⟨j, h1, rfl, h2⟩
  · rintro ⟨j, h1, rfl, h2⟩; exact ⟨j, ⟨h1, h2⟩, rfl⟩
theorem own_sorted (l : List Ac) (n : Int) (i k : Nat) : (own l n i k).Pairwise (· < ·) := by
  unfold own
  rw [List.pairwise_map]
  exact List.Pairwise.imp (R := (· < ·)) (fun h => by omega) (List.Pairwise.filter _ List.pairwise_lt_range)

/-- What is put in the place of x. -/
def bump (l : List Ac) (i : Nat) : Ac := let a := l.getD i zac; (a.1, a.2.1, a.2.2.1, a.2.2.2.1 + 1000, a.2.2.2.2)
/-- A row of marks: those of the shards below k, and the first j of shard k. -/
def rowOf {α : Type} (l : List Ac) (n : Int) (yes no : Nat → α) (k j : Nat) : List α := (List.range l.length).map fun i => if decide (of (hh l i) n < k) || decide ((i : Int) ∈ (own l n l.length k).take j) then yes i else no i

theorem rowOf_zero {α : Type} (l : List Ac) (n : Int) (hn : 1 ≤ n) (h2 : n ≤ 65536) (yes no : Nat → α) : rowOf l n yes no 0 0 = (List.range l.length).map no := by
  unfold rowOf
  refine List.map_congr_left fun i _ => ?_
  have := of_range (h := hh l i) hn h2
  rw [if_neg (by simp; omega)]
theorem rowOf_next {α : Type} (l : List Ac) (n : Int) (yes no : Nat → α) (k : Nat) : rowOf l n yes no k (own l n l.length k).length = rowOf l n yes no (k + 1) 0 := by
  unfold rowOf
  refine List.map_congr_left fun i hi => ?_
  rw [List.take_length, List.take_zero]
  have hm : (i : Int) ∈ own l n l.length k ↔ of (hh l i) n = k := by
    rw [own_mem]
    constructor
    · rintro ⟨j, _, h, h'⟩
      obtain rfl : i = j := by omega
      exact h'
    · exact fun h => ⟨i, by simpa using hi, rfl, h⟩
  by_cases h : of (hh l i) n < (k : Int) + 1
  · rw [if_pos, if_pos (by simp; omega)]
    simp only [Bool.or_eq_true, decide_eq_true_eq, hm]
    omega
  · rw [if_neg, if_neg (by simp; omega)]
    simp only [Bool.or_eq_true, decide_eq_true_eq, hm]
    omega
theorem rowOf_all {α : Type} (l : List Ac) (n : Int) (hn : 1 ≤ n) (h2 : n ≤ 65536) (yes no : Nat → α) : rowOf l n yes no n.toNat 0 = (List.range l.length).map yes := by
  unfold rowOf
  refine List.map_congr_left fun i _ => ?_
  have := of_range (h := hh l i) hn h2
  rw [if_pos (by simp; omega)]

/-- Element j of shard k: who it is, and that the marks do not have it yet. -/
theorem at_elem {l : List Ac} {n : Int} {k j : Nat} (hj : j < (own l n l.length k).length) : ∃ i : Nat, (own l n l.length k)[j] = (i : Int) ∧ i < l.length ∧ of (hh l i) n = k ∧ (i : Int) ∉ (own l n l.length k).take j ∧
    ∀ {α : Type} (yes no : Nat → α) (h : i < (rowOf l n yes no k j).length), (rowOf l n yes no k j)[i] = no i ∧ (rowOf l n yes no k j).set i (yes i) = rowOf l n yes no k (j + 1) := by
  obtain ⟨i, h1, h2, h3⟩ := own_mem.1 (List.getElem_mem hj)
  have hno : (i : Int) ∉ (own l n l.length k).take j := by
    intro hm
    obtain ⟨q, hq, he⟩ := List.getElem_of_mem hm
    rw [List.getElem_take] at he
    have hq' : q < j := by simp at hq; omega
    have := List.pairwise_iff_getElem.1 (own_sorted l n l.length k) q j (by omega) hj hq'
    omega
  refine ⟨i, h2, h1, h3, hno, fun yes no h => ⟨?_, ?_⟩⟩
  · simp only [rowOf, List.getElem_map, List.getElem_range]
    rw [if_neg]
    simp only [Bool.or_eq_true, decide_eq_true_eq, not_or]
    exact ⟨by omega, hno⟩
  · unfold rowOf
    rw [set_map_range]
    refine List.map_congr_left fun q _ => ?_
    have ht : ((q : Int) ∈ (own l n l.length k).take (j + 1)) ↔ ((q : Int) ∈ (own l n l.length k).take j ∨ q = i) := by
      rw [List.take_succ_eq_append_getElem hj, List.mem_append, List.mem_singleton, h2]
      constructor
      · rintro (h | h)
        · exact .inl h
        · exact .inr (by omega)
      · rintro (h | h)
        · exact .inl h
        · exact .inr (by omega)
    by_cases hqi : q = i
    · subst hqi
      rw [if_pos rfl, if_pos (by simp [ht])]
    · rw [if_neg hqi]
      simp [ht, hqi]

theorem rowOf_length {α : Type} (l : List Ac) (n : Int) (yes no : Nat → α) (k j : Nat) : (rowOf l n yes no k j).length = l.length := by simp [rowOf]

def doneOf (l : List Ac) (n : Int) (k : Nat) : List Ac := (own l n l.length k).map fun x => bump l x.toNat

theorem chosen_all {N : Nat} (l : List Ac) (n : Int) (hl : l.length ≤ 1000) (hn : 1 ≤ n) (h8 : n ≤ 8) (hN : 10000000 ≤ N) :
    Loop (S := List Ac × Int) (X := List Ac) (fun s => M.shard_Merge_k2 N ((List.range n.toNat).map (own l n l.length)) ((List.range n.toNat).map (doneOf l n)) s.1 s.2) N (l, 0) = some ((List.range l.length).map (bump l)) := by
  have h0 : (l, (0 : Int)) = (fun k : Nat => (rowOf l n (bump l) (fun i => l.getD i zac) k 0, (k : Int))) 0 := by
    simp only [rowOf_zero l n hn (by omega)]
    refine Prod.ext ?_ rfl
    apply List.ext_getElem (by simp)
    intro i h1 h2
    simp only [List.getElem_map, List.getElem_range]
    rw [List.getD_eq_getElem?_getD, List.getElem?_eq_getElem h1]
    rfl
  rw [h0]
  refine Loop_count (fun k : Nat => (rowOf l n (bump l) (fun i => l.getD i zac) k 0, (k : Int))) n.toNat ?_ ?_ (by omega)
  · intro k hk
    have hlen := own_length l n l.length k
    simp only [M.shard_Merge_k2]
    rw [if_pos (by simp; omega), if_pos (by simp; omega)]
    simp only [M.shard_Merge_k3]
    have hin : Loop (S := List Ac × Int) (X := List Ac) (fun s => M.shard_Merge_k5 N ((List.range n.toNat).map (own l n l.length)) ((List.range n.toNat).map (doneOf l n)) (k : Int) s.1 s.2) N (rowOf l n (bump l) (fun i => l.getD i zac) k 0, 0) = some (rowOf l n (bump l) (fun i => l.getD i zac) (k + 1) 0) := by
      refine Loop_count (fun j : Nat => (rowOf l n (bump l) (fun i => l.getD i zac) k j, (j : Int))) (own l n l.length k).length ?_ ?_ (by omega)
      · intro j hj
        simp only [M.shard_Merge_k5]
        rw [idx_nat (by simpa using hk), Option.bind_some, if_pos (by simpa using hj), idx_nat (by simpa using hk), Option.bind_some]
        simp only [List.getElem_map, List.getElem_range]
        rw [if_pos (by simpa [doneOf] using hj)]
        simp only [M.shard_Merge_k6]
        rw [idx_nat (by simpa using hk), Option.bind_some]
        simp only [List.getElem_map, List.getElem_range]
        rw [idx_nat hj, Option.bind_some]
        obtain ⟨i, e1, e2, e3, e4, e5⟩ := at_elem hj
        have hlr : i < (rowOf l n (bump l) (fun i => l.getD i zac) k j).length := by rw [rowOf_length]; exact e2
        rw [e1, if_pos (by simp)]
        simp only [M.shard_Merge_k7]
        rw [if_pos (by simpa using hlr), idx_nat (by simpa using hk), Option.bind_some]
        simp only [List.getElem_map, List.getElem_range]
        rw [idx_nat (by simpa [doneOf] using hj), Option.bind_some, idx_nat hlr, Option.bind_some, wrap_succ (by omega)]
        have hb : (doneOf l n k)[j]'(by simpa [doneOf] using hj) = bump l i := by simp [doneOf, e1]
        rw [hb]
        unfold setL
        rw [Int.toNat_natCast, (e5 _ _ hlr).2]
      · simp only [M.shard_Merge_k5]
        rw [idx_nat (by simpa using hk), Option.bind_some]
        simp only [List.getElem_map, List.getElem_range]
        rw [if_neg (by simp), rowOf_next]
    rw [hin, Option.bind_some]
    simp only [M.shard_Merge_k4]
    rw [wrap_succ (by omega)]
  · simp only [M.shard_Merge_k2]
    rw [if_neg (by simp), rowOf_all l n hn (by omega)]

theorem accs_get {ids : List Int} {i : Nat} (h : i < (accs ids).length) : (accs ids)[i] = mkA (ids.getD i 0) i := by simp [accs]
theorem accs_length (ids : List Int) : (accs ids).length = ids.length := by simp [accs]
theorem accs_getD {ids : List Int} {i : Nat} (h : i < ids.length) : (accs ids).getD i zac = mkA ids[i] i := by
  rw [List.getD_eq_getElem?_getD, List.getElem?_eq_getElem (by rw [accs_length]; exact h), Option.getD_some, accs_get, List.getD_eq_getElem?_getD, List.getElem?_eq_getElem h]
  rfl
theorem accs_hh {ids : List Int} {i : Nat} (h : i < ids.length) : hh (accs ids) i = ids[i] := by unfold hh; rw [accs_getD h]; rfl
theorem bump_accs {ids : List Int} {i : Nat} (h : i < ids.length) : bump (accs ids) i = ((ids[i], 0, 0, []), [], [], (i : Int) + 1000, 0) := by unfold bump; rw [accs_getD h]; rfl

theorem ShardPartition_true (ids : List Int) (n : Int) (_ : WF (.slice rInt) ids) (_ : WF rInt n) : M.law48_ShardPartition big ids n = some true := by
  have ha := awake_true
  have hN : 10000000 ≤ big := by decide
  unfold M.law48_ShardPartition
  split
  · rw [ha]; rfl
  rename_i hc
  simp only [Bool.or_eq_true, decide_eq_true_eq, not_or] at hc
  have hal := accs_length ids
  rw [accounts_eq ids (by omega) hN, Option.bind_some, Partition_eq _ n (by omega) hN, Option.bind_some]
  have hp : parts (accs ids) n = (List.range n.toNat).map (own (accs ids) n (accs ids).length) := by
    unfold parts; rw [if_neg (by simp; omega)]
  rw [hp, if_neg (by simp; omega)]
  have hmk : mkL ((accs ids).length : Int) (0 : Int) = some (List.replicate (accs ids).length 0) := by unfold mkL; rw [if_pos (by omega), Int.toNat_natCast]
  rw [hmk, Option.bind_some]
  have hloop : Loop (S := List Int × List (List Ac) × Int) (X := (List Int × List (List Ac)) ⊕ Bool) (fun s => M.law48_ShardPartition_k2 big ids n (accs ids) ((List.range n.toNat).map (own (accs ids) n (accs ids).length)) s.1 s.2.1 s.2.2) big (List.replicate (accs ids).length 0, [], 0)
      = some (.inl ((List.range (accs ids).length).map (fun _ => 1), (List.range n.toNat).map (doneOf (accs ids) n))) := by
    have h0 : (List.replicate (accs ids).length (0 : Int), ([] : List (List Ac)), (0 : Int)) = (fun k : Nat => (rowOf (accs ids) n (fun _ => (1 : Int)) (fun _ => 0) k 0, (List.range k).map (doneOf (accs ids) n), (k : Int))) 0 := by
      simp only [rowOf_zero (accs ids) n (by omega) (by omega), List.map_const', List.length_range]; rfl
    rw [h0]
    refine Loop_count (fun k : Nat => (rowOf (accs ids) n (fun _ => (1 : Int)) (fun _ => 0) k 0, (List.range k).map (doneOf (accs ids) n), (k : Int))) n.toNat ?_ ?_ (by omega)
    · intro k hk
      have hlen := own_length (accs ids) n (accs ids).length k
      simp only [M.law48_ShardPartition_k2]
      rw [if_pos (by simp; omega)]
      have hin : Loop (S := List Int × List Ac × Int) (X := (List Int × List Ac) ⊕ Bool) (fun s => M.law48_ShardPartition_k4 big ids n (accs ids) ((List.range n.toNat).map (own (accs ids) n (accs ids).length)) (k : Int) s.1 s.2.1 s.2.2) big (rowOf (accs ids) n (fun _ => (1 : Int)) (fun _ => 0) k 0, [], 0)
          = some (.inl (rowOf (accs ids) n (fun _ => (1 : Int)) (fun _ => 0) (k + 1) 0, doneOf (accs ids) n k)) := by
        refine Loop_count (fun j : Nat => (rowOf (accs ids) n (fun _ => (1 : Int)) (fun _ => 0) k j, ((own (accs ids) n (accs ids).length k).take j).map (fun x => bump (accs ids) x.toNat), (j : Int))) (own (accs ids) n (accs ids).length k).length ?_ ?_ (by omega)
        · intro j hj
          obtain ⟨i, e1, e2, e3, e4, e5⟩ := at_elem hj
          have hii : i < ids.length := by omega
          have hlr : i < (rowOf (accs ids) n (fun _ => (1 : Int)) (fun _ => 0) k j).length := by rw [rowOf_length]; exact e2
          have hk5 : M.law48_ShardPartition_k5 big (accs ids) (rowOf (accs ids) n (fun _ => (1 : Int)) (fun _ => 0) k j) (((own (accs ids) n (accs ids).length k).take j).map (fun x => bump (accs ids) x.toNat)) (j : Int) (i : Int) =
              some (.inl (rowOf (accs ids) n (fun _ => (1 : Int)) (fun _ => 0) k (j + 1), ((own (accs ids) n (accs ids).length k).take (j + 1)).map (fun x => bump (accs ids) x.toNat), ((j + 1 : Nat) : Int))) := by
            unfold M.law48_ShardPartition_k5
            rw [idx_nat hlr, Option.bind_some, Option.bind_some, idx_nat e2, Option.bind_some, (e5 _ _ hlr).1, appA_some (by simp; omega), Option.bind_some, wrap_succ (by omega)]
            unfold setL
            rw [Int.toNat_natCast, show IntKind.i64.wrap ((0 : Int) + 1) = 1 from rfl, (e5 (fun _ => (1 : Int)) (fun _ => 0) hlr).2]
            have hb : bump (accs ids) i = ((accs ids)[i].1, (accs ids)[i].2.1, (accs ids)[i].2.2.1, IntKind.i64.wrap ((accs ids)[i].2.2.2.1 + 1000), (accs ids)[i].2.2.2.2) := by
              rw [bump_accs hii, accs_get e2, List.getD_eq_getElem?_getD, List.getElem?_eq_getElem hii]
              simp only [mkA, Option.getD_some]
              rw [wrap_id (by omega) (by omega)]
            rw [List.take_succ_eq_append_getElem hj, List.map_append, e1]
            simp only [List.map_cons, List.map_nil, Int.toNat_natCast]
            rw [hb]
          simp only [M.law48_ShardPartition_k4]
          rw [idx_nat (by simpa using hk), Option.bind_some]
          simp only [List.getElem_map, List.getElem_range]
          rw [if_pos (by simpa using hj), Option.bind_some, idx_nat hj, Option.bind_some, e1, if_neg (by simp), if_neg (by simp; omega), idx_nat hii, Option.bind_some, Of_eq, Option.bind_some, ← accs_hh hii, e3, if_neg (by simp), hk5]
          by_cases hj0 : 0 < j
          · rw [if_pos (by simpa using hj0), Option.bind_some, wrap_id (by omega) (by omega), show (j : Int) - 1 = ((j - 1 : Nat) : Int) by omega, idx_nat (by omega), Option.bind_some]
            have hs := List.pairwise_iff_getElem.1 (own_sorted (accs ids) n (accs ids).length k) (j - 1) j (by omega) hj (by omega)
            rw [e1] at hs
            rw [if_neg (by simpa using hs)]
          · rw [if_neg (by simpa using hj0)]
        · simp only [M.law48_ShardPartition_k4]
          rw [idx_nat (by simpa using hk), Option.bind_some]
          simp only [List.getElem_map, List.getElem_range]
          rw [if_neg (by simp), rowOf_next, List.take_length]
          rfl
      rw [hin, Option.bind_some, Sum.elim_inl]
      simp only [M.law48_ShardPartition_k3]
      rw [appA_some (by simp; omega), Option.bind_some, wrap_succ (by omega), List.range_succ, List.map_append]
      rfl
    · simp only [M.law48_ShardPartition_k2]
      rw [if_neg (by simp; omega), rowOf_all (accs ids) n (by omega) (by omega)]
  rw [hloop, Option.bind_some, Sum.elim_inl]
  unfold M.law48_ShardPartition_k1
  have hsa : ∀ x ∈ accs ids, SA x := by
    intro x hx
    obtain ⟨i, hi, rfl⟩ := List.getElem_of_mem hx
    rw [accs_get]
    simp [SA, mkA]
  obtain ⟨c, h1, _, h3, _, h5⟩ := Merge_both (N := big) (parts := (List.range n.toNat).map (own (accs ids) n (accs ids).length)) (done := (List.range n.toNat).map (doneOf (accs ids) n)) (accs ids) (by simp; omega)
    (fun x hx => by obtain ⟨k, _, rfl⟩ := List.mem_map.1 hx; have := own_length (accs ids) n (accs ids).length k; omega)
    (fun d hd x hx => by
      obtain ⟨k, _, rfl⟩ := List.mem_map.1 hd
      obtain ⟨y, hy, rfl⟩ := List.mem_map.1 hx
      obtain ⟨i, hi, rfl, _⟩ := own_mem.1 hy
      rw [Int.toNat_natCast, bump_accs (by omega)]
      simp [SA]) hsa (by omega) hN
  rw [h1, Option.bind_some, if_neg (by simp [h3])]
  have hlast : Loop (S := Int) (X := Unit ⊕ Bool) (fun s => M.law48_ShardPartition_k7 big ids (accs ids) ((List.range (accs ids).length).map (fun _ => 1)) c s) big 0 = some (.inl ()) := by
    refine Loop_count (fun i : Nat => (i : Int)) (accs ids).length ?_ ?_ (by omega)
    · intro i hi
      have hii : i < ids.length := by omega
      have hne : accs ids ≠ [] := by intro he; rw [he] at hi; simp at hi
      have hcc : c = (List.range (accs ids).length).map (bump (accs ids)) := Option.some.inj ((h5 hne).symm.trans (chosen_all (N := big) (accs ids) n (by omega) (by omega) (by omega) hN))
      subst hcc
      simp only [M.law48_ShardPartition_k7]
      rw [if_pos (by simpa using hi), idx_nat (by simpa using hi), Option.bind_some, idx_nat (by simpa using hi), Option.bind_some, Option.bind_some, idx_nat hii, Option.bind_some, idx_nat hi, Option.bind_some]
      simp only [List.getElem_map, List.getElem_range, M.law48_ShardPartition_k8]
      rw [bump_accs hii, accs_get hi, wrap_id (n := (i : Int) + 1000) (by omega) (by omega), wrap_succ (i := i) (by omega)]
      simp [mkA]
    · simp only [M.law48_ShardPartition_k7]
      rw [if_neg (by simp)]
  rw [hlast, Option.bind_some, Sum.elim_inl]
  unfold M.law48_ShardPartition_k6
  rw [ha]
  rfl
end L
end Go.Proofs.Ytncajogcgkmpmaa
