/- Chapter 48: what the models compute (plain laws). -/
import Derived.Test.YtncajogcgkmpmaaModel
import Derived.Test.YtncajogcgkmpmaaPlain
import Derived.Test.YtncajogcgkmpmaaOpen
namespace Go.Proofs.Ytncajogcgkmpmaa
open Go Go.RowKit
namespace L

/-! ## Of -/
def of (h n : Int) : Int := if ((decide (n < 1) || decide (65536 < n)) || decide (h < 0)) = true then 0 else (h % 1048576 * 40503 % 65536 * n) / 65536
theorem Of_eq (N : Nat) (h n : Int) : M.shard_Of N h n = some (of h n) := by
  unfold M.shard_Of of
  split
  · rfl
  · rename_i hc
    simp only [Bool.or_eq_true, decide_eq_true_eq, not_or] at hc
    have e1 : Int.tmod h 1048576 = h % 1048576 := Int.tmod_eq_emod_of_nonneg (by omega)
    have h1 : 0 ≤ h % 1048576 ∧ h % 1048576 < 1048576 := by omega
    rw [e1, wrap_id (n := h % 1048576 * 40503) (by omega) (by omega)]
    have e2 : Int.tmod (h % 1048576 * 40503) 65536 = h % 1048576 * 40503 % 65536 := Int.tmod_eq_emod_of_nonneg (by omega)
    rw [e2]
    have h2 : 0 ≤ h % 1048576 * 40503 % 65536 ∧ h % 1048576 * 40503 % 65536 < 65536 := by omega
    generalize h % 1048576 * 40503 % 65536 = q at *
    have h3 : 0 ≤ q * n := Int.mul_nonneg h2.1 (by omega)
    have h4 : q * n ≤ 65536 * 65536 := Int.mul_le_mul (by omega) (by omega) (by omega) (by omega)
    rw [wrap_id (n := q * n) (by omega) (by omega), Int.tdiv_eq_ediv_of_nonneg h3, wrap_id (by omega) (by omega)]
theorem ref_Of_eq (N : Nat) (h n : Int) : M.ref48_Of N h n = some (of h n) := Of_eq N h n
theorem of_range {h n : Int} (h1 : 1 ≤ n) (h2 : n ≤ 65536) : 0 ≤ of h n ∧ of h n < n := by
  unfold of
  split
  · omega
  · have hq : 0 ≤ h % 1048576 * 40503 % 65536 ∧ h % 1048576 * 40503 % 65536 < 65536 := by omega
    generalize h % 1048576 * 40503 % 65536 = q at *
    have h3 : 0 ≤ q * n := Int.mul_nonneg hq.1 (by omega)
    have h4 : q * n < 65536 * n := Int.mul_lt_mul_of_pos_right hq.2 (by omega)
    omega

set_option maxRecDepth 100000 in
theorem awake_true : M.law48_awake big = some true := by kernel_rfl

theorem ShardOf_true (h n : Int) (_ : WF rInt h) (_ : WF rInt n) : M.law48_ShardOf big h n = some true := by
  have ha := awake_true
  have hk : ∀ y, y = of h n → M.law48_ShardOf_k1 big h n y = some true := by
    rintro y rfl
    unfold M.law48_ShardOf_k1
    rw [ref_Of_eq, Option.bind_some, if_pos (by simp), ha]
    rfl
  unfold M.law48_ShardOf
  rw [Of_eq, Option.bind_some]
  by_cases h1 : 1 ≤ n
  · rw [if_pos (by simpa using h1)]
    by_cases h2 : n ≤ 65536
    · have := of_range (h := h) h1 h2
      rw [if_pos (by simpa using h2), if_neg (by simp; omega), if_neg (by simp; omega), hk _ rfl]
    · rw [if_neg (by simpa using h2), hk _ rfl]
  · rw [if_neg (by simpa using h1), hk _ rfl]

/-! ## Partition -/
abbrev Ac : Type := (Int × Int × Int × List (rFact.den)) × List (rPosting.den) × List (rAppeal.den) × Int × Int
def zac : Ac := ((0, 0, 0, []), [], [], 0, 0)
def hh (l : List Ac) (j : Nat) : Int := (l.getD j zac).1.1
/-- The indices below i of shard k. -/
def own (l : List Ac) (n : Int) (i : Nat) (k : Nat) : List Int := ((List.range i).filter fun j => decide (of (hh l j) n = k)).map fun j : Nat => (j : Int)
def parts (l : List Ac) (n : Int) : List (List Int) := if (decide (n < 1) || decide (8 < n)) = true then [] else (List.range n.toNat).map (own l n l.length)

theorem hh_get {l : List Ac} {j : Nat} (h : j < l.length) : hh l j = l[j].1.1 := by
  unfold hh
  rw [List.getD_eq_getElem?_getD, List.getElem?_eq_getElem h]
  rfl
theorem own_length (l : List Ac) (n : Int) (i k : Nat) : (own l n i k).length ≤ i := by
  unfold own
  have := List.length_filter_le (fun j => decide (of (hh l j) n = k)) (List.range i)
  simpa using this
theorem own_succ (l : List Ac) (n : Int) (i k : Nat) : own l n (i + 1) k = if of (hh l i) n = k then own l n i k ++ [(i : Int)] else own l n i k := by
  unfold own
  rw [filter_range_succ]
  by_cases h : of (hh l i) n = k
  · rw [if_pos (by simpa using h), if_pos h]; simp
  · rw [if_neg (by simpa using h), if_neg h]; simp

theorem Partition_eq {N : Nat} (l : List Ac) (n : Int) (hl : l.length ≤ 1000000) (hN : 10000000 ≤ N) : M.shard_Partition N l n = some (parts l n) := by
  unfold M.shard_Partition parts
  split
  · rfl
  · rename_i hc
    simp only [Bool.or_eq_true, decide_eq_true_eq, not_or] at hc
    have hmk : mkL n ([] : List Int) = some (List.replicate n.toNat []) := by unfold mkL; rw [if_pos (by omega)]
    rw [hmk, Option.bind_some]
    have hloop : Loop (S := List (List Int) × Int) (X := List (List Int)) (fun s => M.shard_Partition_k2 N l n s.1 s.2) N (List.replicate n.toNat [], 0) = some ((List.range n.toNat).map (own l n l.length)) := by
      have h0 : (List.replicate n.toNat ([] : List Int), (0 : Int)) = (fun i : Nat => ((List.range n.toNat).map (own l n i), (i : Int))) 0 := by
        show _ = ((List.range n.toNat).map (fun _ => ([] : List Int)), (0 : Int))
        rw [List.map_const', List.length_range]
      rw [h0]
      refine Loop_count (fun i : Nat => ((List.range n.toNat).map (own l n i), (i : Int))) l.length ?_ ?_ (by omega)
      · intro i hi
        have hw : IntKind.i64.wrap ((i : Int) + 1) = ((i + 1 : Nat) : Int) := by rw [wrap_id] <;> omega
        simp only [M.shard_Partition_k2]
        rw [if_pos (by simpa using hi), idx_nat hi, Option.bind_some, Of_eq, Option.bind_some, ← hh_get hi]
        have hr := of_range (h := hh l i) (n := n) (by omega) (by omega)
        obtain ⟨k, hk⟩ := Int.eq_ofNat_of_zero_le hr.1
        have hkn : k < n.toNat := by omega
        rw [hk, idx_nat (by simpa using hkn), Option.bind_some]
        simp only [List.getElem_map, List.getElem_range]
        rw [appA_some (by have := own_length l n i k; simp; omega), Option.bind_some]
        unfold setL
        rw [Int.toNat_natCast, set_map_range, idx_nat (by simpa using hkn), Option.bind_some, hw]
        refine congrArg (fun L : List (List Int) => some (Sum.inl (L, ((i + 1 : Nat) : Int)))) (List.map_congr_left fun j _ => ?_)
        rw [own_succ, hk]
        by_cases hj : j = k
        · subst hj; simp
        · rw [if_neg hj, if_neg (by omega)]
      · simp only [M.shard_Partition_k2]
        rw [if_neg (by simp)]
    rw [hloop]
    rfl

theorem ref_Partition_eq {N : Nat} (l : List Ac) (n : Int) (hl : l.length ≤ 1000000) (hN : 10000000 ≤ N) : M.ref48_Partition N l n = some (parts l n) := by
  unfold M.ref48_Partition parts
  split
  · rfl
  · rename_i hc
    simp only [Bool.or_eq_true, decide_eq_true_eq, not_or] at hc
    have hloop : Loop (S := List (List Int) × Int) (X := List (List Int)) (fun s => M.ref48_Partition_k2 N l n s.1 s.2) N ([], 0) = some ((List.range n.toNat).map (own l n l.length)) := by
      have h0 : (([] : List (List Int)), (0 : Int)) = (fun k : Nat => ((List.range k).map (own l n l.length), (k : Int))) 0 := rfl
      rw [h0]
      refine Loop_count (fun k : Nat => ((List.range k).map (own l n l.length), (k : Int))) n.toNat ?_ ?_ (by omega)
      · intro k hk
        have hw : IntKind.i64.wrap ((k : Int) + 1) = ((k + 1 : Nat) : Int) := by rw [wrap_id] <;> omega
        simp only [M.ref48_Partition_k2]
        rw [if_pos (by simp; omega)]
        have hin : Loop (S := List Int × Int) (X := List Int) (fun s => M.ref48_Partition_k4 N l n (k : Int) s.1 s.2) N ([], 0) = some (own l n l.length k) := by
          have h1 : (([] : List Int), (0 : Int)) = (fun i : Nat => (own l n i k, (i : Int))) 0 := rfl
          rw [h1]
          refine Loop_count (fun i : Nat => (own l n i k, (i : Int))) l.length ?_ ?_ (by omega)
          · intro i hi
            have hw : IntKind.i64.wrap ((i : Int) + 1) = ((i + 1 : Nat) : Int) := by rw [wrap_id] <;> omega
            simp only [M.ref48_Partition_k4]
            rw [if_pos (by simpa using hi), idx_nat hi, Option.bind_some, ref_Of_eq, Option.bind_some, ← hh_get hi, hw, own_succ]
            by_cases h : of (hh l i) n = k
            · rw [if_pos (by simpa using h), if_pos h, appA_some (by have := own_length l n i k; simp; omega), Option.bind_some]
            · rw [if_neg (by simpa using h), if_neg h]
          · simp only [M.ref48_Partition_k4]
            rw [if_neg (by simp)]
        rw [hin, Option.bind_some]
        simp only [M.ref48_Partition_k3, hw]
        rw [appA_some (by simp; omega), Option.bind_some, List.range_succ, List.map_append]
        rfl
      · simp only [M.ref48_Partition_k2]
        rw [if_neg (by simp; omega)]
    rw [hloop]
    rfl

theorem Ints_refl {N : Nat} (l : List Int) (hl : l.length < N) (hl2 : l.length ≤ 4294967296) : M.same_Ints N l l = some true := by
  unfold M.same_Ints
  rw [if_neg (by simp)]
  have : Loop (S := Int) (X := Unit ⊕ Bool) (fun s => M.same_Ints_k2 N l l s) N 0 = some (.inl ()) := by
    refine Loop_count (fun i : Nat => (i : Int)) l.length ?_ ?_ hl
    · intro i hi
      have hw : IntKind.i64.wrap ((i : Int) + 1) = ((i + 1 : Nat) : Int) := by rw [wrap_id] <;> omega
      simp only [M.same_Ints_k2, M.same_Ints_k3]
      rw [if_pos (by simpa using hi), if_pos (by simpa using hi), idx_nat hi]
      simp [hw]
    · simp only [M.same_Ints_k2]
      rw [if_neg (by simp)]
  rw [this]
  rfl
theorem IntLists_refl {N : Nat} (l : List (List Int)) (hl : l.length < N) (hl2 : l.length ≤ 4294967296) (he : ∀ x ∈ l, x.length < N ∧ x.length ≤ 4294967296) : M.same_IntLists N l l = some true := by
  unfold M.same_IntLists
  rw [if_neg (by simp)]
  have : Loop (S := Int) (X := Unit ⊕ Bool) (fun s => M.same_IntLists_k2 N l l s) N 0 = some (.inl ()) := by
    refine Loop_count (fun i : Nat => (i : Int)) l.length ?_ ?_ hl
    · intro i hi
      have hw : IntKind.i64.wrap ((i : Int) + 1) = ((i + 1 : Nat) : Int) := by rw [wrap_id] <;> omega
      simp only [M.same_IntLists_k2, M.same_IntLists_k3]
      have := he l[i] (List.getElem_mem hi)
      rw [if_pos (by simpa using hi), if_pos (by simpa using hi), idx_nat hi, Option.bind_some, Option.bind_some, Ints_refl _ this.1 this.2]
      simp [hw]
    · simp only [M.same_IntLists_k2]
      rw [if_neg (by simp)]
  rw [this]
  rfl

/-! ## accounts -/
def mkA (id : Int) (j : Nat) : Ac := ((id, 0, 0, []), [], [], (j : Int), 0)
def accs (ids : List Int) : List Ac := (List.range ids.length).map fun j => mkA (ids.getD j 0) j
theorem accounts_eq {N : Nat} (ids : List Int) (hl : ids.length ≤ 1000000) (hN : 10000000 ≤ N) : M.law48_accounts N ids = some (accs ids) := by
  unfold M.law48_accounts
  have hmk : mkL (ids.length : Int) (((0 : Int), (0 : Int), (0 : Int), ([] : List rFact.den)), ([] : List rPosting.den), ([] : List rAppeal.den), (0 : Int), (0 : Int)) = some (List.replicate ids.length zac) := by
    unfold mkL; rw [if_pos (by omega), Int.toNat_natCast]; rfl
  rw [hmk, Option.bind_some]
  have hloop : Loop (S := List Ac × Int) (X := List Ac) (fun s => M.law48_accounts_k2 N ids s.1 s.2) N (List.replicate ids.length zac, 0) = some (accs ids) := by
    have h0 : (List.replicate ids.length zac, (0 : Int)) = (fun i : Nat => ((List.range ids.length).map (fun j => if j < i then mkA (ids.getD j 0) j else zac), (i : Int))) 0 := by
      simp only [Nat.not_lt_zero, if_false, List.map_const', List.length_range]; rfl
    rw [h0]
    refine Loop_count (fun i : Nat => ((List.range ids.length).map (fun j => if j < i then mkA (ids.getD j 0) j else zac), (i : Int))) ids.length ?_ ?_ (by omega)
    · intro i hi
      have hw : IntKind.i64.wrap ((i : Int) + 1) = ((i + 1 : Nat) : Int) := by rw [wrap_id] <;> omega
      simp only [M.law48_accounts_k2]
      rw [if_pos (by simpa using hi), idx_nat hi, Option.bind_some, idx_nat (by simpa using hi), Option.bind_some]
      unfold setL
      simp only [Int.toNat_natCast, set_map_range]
      rw [idx_nat (by simpa using hi), Option.bind_some, hw]
      simp only [List.getElem_map, List.getElem_range, Nat.lt_irrefl, if_false, if_true]
      refine congrArg (fun L : List Ac => some (Sum.inl (L, ((i + 1 : Nat) : Int)))) (List.map_congr_left fun j _ => ?_)
      by_cases hj : j = i
      · subst hj
        rw [if_pos rfl, if_pos (by omega), List.getD_eq_getElem?_getD, List.getElem?_eq_getElem hi]
        rfl
      · rw [if_neg hj, if_neg hj]
        by_cases hji : j < i
        · rw [if_pos hji, if_pos (by omega)]
        · rw [if_neg hji, if_neg (by omega)]
    · simp only [M.law48_accounts_k2]
      rw [if_neg (by simp)]
      refine congrArg (fun L : List Ac => some (Sum.inr L)) (List.map_congr_left fun j hj => ?_)
      rw [if_pos (by simpa using hj)]
  rw [hloop]
  rfl

theorem parts_small (l : List Ac) (n : Int) : (parts l n).length ≤ 8 ∧ ∀ x ∈ parts l n, x.length ≤ l.length := by
  unfold parts
  split
  · simp
  · rename_i hc
    simp only [Bool.or_eq_true, decide_eq_true_eq, not_or] at hc
    refine ⟨by simp; omega, fun x hx => ?_⟩
    obtain ⟨k, _, rfl⟩ := List.mem_map.1 hx
    exact own_length l n _ k

theorem ShardLists_true (ids : List Int) (n : Int) (_ : WF (.slice rInt) ids) (_ : WF rInt n) : M.law48_ShardLists big ids n = some true := by
  have ha := awake_true
  have hN : 10000000 ≤ big := by decide
  unfold M.law48_ShardLists
  by_cases h : (200 : Int) < (ids.length : Int)
  · rw [if_pos (by simpa using h), ha]; rfl
  · have hal : (accs ids).length = ids.length := by simp [accs]
    have hp := parts_small (accs ids) n
    rw [if_neg (by simpa using h), accounts_eq ids (by omega) hN, Option.bind_some, Partition_eq _ n (by omega) hN, Option.bind_some, ref_Partition_eq _ n (by omega) hN, Option.bind_some,
      IntLists_refl _ (by omega) (by omega) (fun x hx => by have := hp.2 x hx; omega), Option.bind_some, if_pos rfl, ha]
    rfl

/-! ## Merge -/
theorem list_refl {α : Type} {N : Nat} {k2 : Nat → List α → List α → Int → Option (Int ⊕ (Unit ⊕ Bool))} (l : List α) (hN : l.length < N)
    (hin : ∀ i : Nat, i < l.length → k2 N l l (i : Int) = some (.inl ((i + 1 : Nat) : Int))) (hout : k2 N l l (l.length : Int) = some (.inr (.inl ()))) :
    Loop (S := Int) (X := Unit ⊕ Bool) (fun s => k2 N l l s) N 0 = some (.inl ()) :=
  Loop_count (fun i : Nat => (i : Int)) l.length (fun i hi => hin i hi) hout hN

theorem wrap_succ {i : Nat} (h : i ≤ 1000000000) : IntKind.i64.wrap ((i : Int) + 1) = ((i + 1 : Nat) : Int) := by rw [wrap_id] <;> omega

def SA (a : Ac) : Prop := a.1.2.2.2.length ≤ 1048576 ∧ a.2.1.length ≤ 1048576 ∧ a.2.2.1.length ≤ 1048576

theorem Facts_refl {N : Nat} (l : List rFact.den) (hl : l.length ≤ 1048576) (hN : 10000000 ≤ N) : M.same_Facts N l l = some true := by
  unfold M.same_Facts
  rw [if_neg (by simp), list_refl (k2 := M.same_Facts_k2) l (by omega)]
  · rfl
  · intro i hi
    simp only [M.same_Facts_k2, M.same_Facts_k3]
    rw [if_pos (by simpa using hi), if_pos (by simpa using hi), idx_nat hi, Option.bind_some, Option.bind_some, wrap_succ (by omega), eqR_iff.2 rfl]
    rfl
  · simp only [M.same_Facts_k2]
    rw [if_neg (by simp)]
theorem Postings_refl {N : Nat} (l : List rPosting.den) (hl : l.length ≤ 1048576) (hN : 10000000 ≤ N) : M.same_Postings N l l = some true := by
  unfold M.same_Postings
  rw [if_neg (by simp), list_refl (k2 := M.same_Postings_k2) l (by omega)]
  · rfl
  · intro i hi
    simp only [M.same_Postings_k2, M.same_Postings_k3]
    rw [if_pos (by simpa using hi), if_pos (by simpa using hi), idx_nat hi, Option.bind_some, Option.bind_some, wrap_succ (by omega), eqR_iff.2 rfl]
    rfl
  · simp only [M.same_Postings_k2]
    rw [if_neg (by simp)]
theorem Appeals_refl {N : Nat} (l : List rAppeal.den) (hl : l.length ≤ 1048576) (hN : 10000000 ≤ N) : M.same_Appeals N l l = some true := by
  unfold M.same_Appeals
  rw [if_neg (by simp), list_refl (k2 := M.same_Appeals_k2) l (by omega)]
  · rfl
  · intro i hi
    simp only [M.same_Appeals_k2, M.same_Appeals_k3]
    rw [if_pos (by simpa using hi), if_pos (by simpa using hi), idx_nat hi, Option.bind_some, Option.bind_some, wrap_succ (by omega), eqR_iff.2 rfl]
    rfl
  · simp only [M.same_Appeals_k2]
    rw [if_neg (by simp)]
theorem Account_refl {N : Nat} (a : Ac) (ha : SA a) (hN : 10000000 ≤ N) : M.same_Account N a a = some true := by
  unfold M.same_Account M.same_Household
  rw [if_pos (by simp), if_pos (by simp), if_pos (by simp), Facts_refl _ ha.1 hN, Option.bind_some, Option.bind_some, if_pos rfl, Postings_refl _ ha.2.1 hN, Option.bind_some, if_pos rfl, Appeals_refl _ ha.2.2 hN, Option.bind_some, if_pos rfl, if_pos (by simp)]
  simp
theorem Accounts_refl {N : Nat} (l : List Ac) (hl : l.length ≤ 1048576) (he : ∀ x ∈ l, SA x) (hN : 10000000 ≤ N) : M.same_Accounts N l l = some true := by
  unfold M.same_Accounts
  rw [if_neg (by simp), list_refl (k2 := M.same_Accounts_k2) l (by omega)]
  · rfl
  · intro i hi
    simp only [M.same_Accounts_k2, M.same_Accounts_k3]
    rw [if_pos (by simpa using hi), if_pos (by simpa using hi), idx_nat hi, Option.bind_some, Option.bind_some, wrap_succ (by omega), Account_refl _ (he _ (List.getElem_mem hi)) hN]
    rfl
  · simp only [M.same_Accounts_k2]
    rw [if_neg (by simp)]

theorem clone_eq (N : Nat) (a : Ac) (ha : SA a) : M.shard_clone N a = some a := by
  unfold M.shard_clone
  have h1 := ha.1
  have h2 := ha.2.1
  have h3 := ha.2.2
  rw [appA_some (by simp; omega), Option.bind_some, appA_some (by simp; omega), Option.bind_some, appA_some (by simp; omega), Option.bind_some]
  simp

theorem all_set {p : Ac → Prop} {c : List Ac} (hc : ∀ x ∈ c, p x) {i : Nat} {y : Ac} (hy : p y) : ∀ x ∈ c.set i y, p x := by
  intro x hx
  rcases List.mem_or_eq_of_mem_set hx with h | h
  · exact hc x h
  · exact h ▸ hy

/-- The rounds over one list. -/
theorem round_ok {N : Nat} {parts : List (List Int)} {done : List (List Ac)} {k : Nat} (hk : k < parts.length) (hk' : k < done.length) (c : List Ac) (hp : parts[k].length ≤ 1048576) (hd : ∀ x ∈ done[k], SA x) (hc : ∀ x ∈ c, SA x) (hcl : c.length ≤ 1048576) (hN : 10000000 ≤ N) :
    ∃ c', Loop (S := List Ac × Int) (X := List Ac) (fun s => M.shard_Merge_k5 N parts done (k : Int) s.1 s.2) N (c, 0) = some c' ∧ c'.length = c.length ∧ ∀ x ∈ c', SA x := by
  obtain ⟨x, hx, hq⟩ := Loop_rule (S := List Ac × Int) (X := List Ac) (body := fun s => M.shard_Merge_k5 N parts done (k : Int) s.1 s.2)
    (fun s => ∃ j : Nat, s.2 = (j : Int) ∧ j ≤ parts[k].length ∧ s.1.length = c.length ∧ ∀ x ∈ s.1, SA x) (fun s => parts[k].length - s.2.toNat) (fun c' => c'.length = c.length ∧ ∀ x ∈ c', SA x) (by
      rintro ⟨c1, _⟩ ⟨j, rfl, hj, hl, hall⟩
      simp only at hl hall
      simp only [M.shard_Merge_k5]
      rw [idx_nat hk, Option.bind_some]
      by_cases h1 : j < parts[k].length
      · rw [if_pos (by simpa using h1), idx_nat hk', Option.bind_some]
        by_cases h2 : j < done[k].length
        · rw [if_pos (by simpa using h2)]
          simp only [M.shard_Merge_k6]
          rw [idx_nat hk, Option.bind_some, idx_nat h1, Option.bind_some]
          have hw := wrap_succ (i := j) (by omega)
          by_cases h3 : 0 ≤ parts[k][j] ∧ parts[k][j] < (c1.length : Int)
          · rw [if_pos (by simpa using h3.1)]
            obtain ⟨q, hq⟩ := Int.eq_ofNat_of_zero_le h3.1
            rw [hq] at h3 ⊢
            have hqc : q < c1.length := by omega
            simp only [M.shard_Merge_k7]
            rw [if_pos (by simpa using hqc), idx_nat hk', Option.bind_some, idx_nat h2, Option.bind_some, idx_nat hqc, Option.bind_some, hw]
            refine Or.inl ⟨_, rfl, ⟨j + 1, rfl, by omega, ?_, ?_⟩, ?_⟩
            · simp [setL, hl]
            · simp only [setL, Int.toNat_natCast]
              exact all_set hall (hd _ (List.getElem_mem h2))
            · simp only [Int.toNat_natCast]; omega
          · refine Or.inl ⟨(c1, ((j + 1 : Nat) : Int)), ?_, ⟨j + 1, rfl, by omega, hl, hall⟩, ?_⟩
            · by_cases h4 : 0 ≤ parts[k][j]
              · rw [if_pos (by simpa using h4)]
                simp only [M.shard_Merge_k7]
                rw [if_neg (by simpa using fun h5 => h3 ⟨h4, h5⟩), hw]
              · rw [if_neg (by simpa using h4)]
                simp only [M.shard_Merge_k7]
                rw [if_neg (by simp), hw]
            · simp only [Int.toNat_natCast]; omega
        · rw [if_neg (by simpa using h2)]
          exact Or.inr ⟨c1, rfl, hl, hall⟩
      · rw [if_neg (by simpa using h1)]
        exact Or.inr ⟨c1, rfl, hl, hall⟩) N (c, 0) ⟨0, rfl, by omega, rfl, hc⟩ (by simp; omega)
  exact ⟨x, hx, hq⟩

theorem chosen_ok {N : Nat} {parts : List (List Int)} {done : List (List Ac)} (c : List Ac) (hpl : parts.length ≤ 1048576) (hp : ∀ x ∈ parts, x.length ≤ 1048576) (hd : ∀ d ∈ done, ∀ x ∈ d, SA x) (hc : ∀ x ∈ c, SA x) (hcl : c.length ≤ 1048576) (hN : 10000000 ≤ N) :
    ∃ c', Loop (S := List Ac × Int) (X := List Ac) (fun s => M.shard_Merge_k2 N parts done s.1 s.2) N (c, 0) = some c' ∧ c'.length = c.length ∧ ∀ x ∈ c', SA x := by
  obtain ⟨x, hx, hq⟩ := Loop_rule (S := List Ac × Int) (X := List Ac) (body := fun s => M.shard_Merge_k2 N parts done s.1 s.2)
    (fun s => ∃ j : Nat, s.2 = (j : Int) ∧ j ≤ parts.length ∧ s.1.length = c.length ∧ ∀ x ∈ s.1, SA x) (fun s => parts.length - s.2.toNat) (fun c' => c'.length = c.length ∧ ∀ x ∈ c', SA x) (by
      rintro ⟨c1, _⟩ ⟨j, rfl, hj, hl, hall⟩
      simp only at hl hall
      simp only [M.shard_Merge_k2]
      by_cases h1 : j < parts.length
      · rw [if_pos (by simpa using h1)]
        by_cases h2 : j < done.length
        · rw [if_pos (by simpa using h2)]
          obtain ⟨c2, e2, l2, a2⟩ := round_ok (N := N) h1 h2 c1 (hp _ (List.getElem_mem h1)) (hd _ (List.getElem_mem h2)) hall (by omega) hN
          simp only [M.shard_Merge_k3]
          rw [e2, Option.bind_some]
          simp only [M.shard_Merge_k4]
          rw [wrap_succ (by omega)]
          exact Or.inl ⟨_, rfl, ⟨j + 1, rfl, by omega, by rw [l2, hl], a2⟩, by simp only [Int.toNat_natCast]; omega⟩
        · rw [if_neg (by simpa using h2)]
          exact Or.inr ⟨c1, rfl, hl, hall⟩
      · rw [if_neg (by simpa using h1)]
        exact Or.inr ⟨c1, rfl, hl, hall⟩) N (c, 0) ⟨0, rfl, by omega, rfl, hc⟩ (by simp; omega)
  exact ⟨x, hx, hq⟩

theorem Merge_both {N : Nat} {parts : List (List Int)} {done : List (List Ac)} (l : List Ac) (hpl : parts.length ≤ 1048576) (hp : ∀ x ∈ parts, x.length ≤ 1048576) (hd : ∀ d ∈ done, ∀ x ∈ d, SA x) (hc : ∀ x ∈ l, SA x) (hcl : l.length ≤ 1048576) (hN : 10000000 ≤ N) :
    ∃ c, M.shard_Merge N l parts done = some c ∧ M.ref48_Merge N l parts done = some c ∧ c.length = l.length ∧ (∀ x ∈ c, SA x) ∧
      (l ≠ [] → Loop (S := List Ac × Int) (X := List Ac) (fun s => M.shard_Merge_k2 N parts done s.1 s.2) N (l, 0) = some c) := by
  obtain ⟨c, e, hl, ha⟩ := chosen_ok (N := N) l hpl hp hd hc hcl hN
  have hr : M.ref48_Merge N l parts done = some c := by
    unfold M.ref48_Merge
    rw [appA_some (by simp; omega), Option.bind_some, List.nil_append]
    have e' : Loop (S := List Ac × Int) (X := List Ac) (fun s => M.ref48_Merge_k2 N parts done s.1 s.2) N (l, 0) = some c := e
    rw [e']
    rfl
  refine ⟨c, ?_, hr, hl, ha, fun _ => e⟩
  unfold M.shard_Merge
  by_cases h0 : l.length = 0
  · rw [if_pos (by simpa using h0)]
    have : c = [] := List.length_eq_zero_iff.1 (by omega)
    rw [this]
  · rw [if_neg (by simpa using h0), appA_some (by simp; omega), Option.bind_some, List.nil_append, e, Option.bind_some]
    unfold M.shard_Merge_k1
    have : Loop (S := List Ac × Int) (X := List Ac) (fun s => M.shard_Merge_k9 N c s.1 s.2) N (c, 0) = some c := by
      refine Loop_count (fun i : Nat => (c, (i : Int))) c.length ?_ ?_ (by omega)
      · intro i hi
        simp only [M.shard_Merge_k9]
        rw [if_pos (by simpa using hi), idx_nat hi, Option.bind_some, clone_eq N _ (ha _ (List.getElem_mem hi)), Option.bind_some, Option.bind_some, wrap_succ (by omega)]
        unfold setL
        rw [Int.toNat_natCast, List.set_getElem_self]
      · simp only [M.shard_Merge_k9]
        rw [if_neg (by simp)]
    rw [this]
    rfl

theorem Light_some {N : Nat} (l : List Ac) (parts : List (List Int)) (done : List (List Ac)) (h1 : parts.length ≤ 1048576) (h2 : done.length ≤ 1048576) (hN : 10000000 ≤ N) : ∃ b, M.ref48_Light N l parts done = some b := by
  have hA : ∃ x, Loop (S := Int) (X := Unit ⊕ Bool) (fun s => M.ref48_Light_k3 N parts s) N 0 = some x ∧ True :=
    Loop_rule (S := Int) (X := Unit ⊕ Bool) (body := fun s => M.ref48_Light_k3 N parts s) (fun s => ∃ j : Nat, s = (j : Int) ∧ j ≤ parts.length) (fun s => parts.length - s.toNat) (fun _ => True) (by
      rintro _ ⟨j, rfl, hj⟩
      simp only [M.ref48_Light_k3]
      by_cases h : j < parts.length
      · rw [if_pos (by simpa using h), idx_nat h, Option.bind_some]
        split
        · exact Or.inr ⟨_, rfl, trivial⟩
        · rw [wrap_succ (by omega)]
          exact Or.inl ⟨_, rfl, ⟨j + 1, rfl, by omega⟩, by simp only [Int.toNat_natCast]; omega⟩
      · rw [if_neg (by simpa using h)]
        exact Or.inr ⟨_, rfl, trivial⟩) N 0 ⟨0, rfl, by omega⟩ (by simp; omega)
  have hB : ∃ x, Loop (S := Int) (X := Unit ⊕ Bool) (fun s => M.ref48_Light_k5 N done s) N 0 = some x ∧ True :=
    Loop_rule (S := Int) (X := Unit ⊕ Bool) (body := fun s => M.ref48_Light_k5 N done s) (fun s => ∃ j : Nat, s = (j : Int) ∧ j ≤ done.length) (fun s => done.length - s.toNat) (fun _ => True) (by
      rintro _ ⟨j, rfl, hj⟩
      simp only [M.ref48_Light_k5]
      by_cases h : j < done.length
      · rw [if_pos (by simpa using h), idx_nat h, Option.bind_some]
        split
        · exact Or.inr ⟨_, rfl, trivial⟩
        · rw [wrap_succ (by omega)]
          exact Or.inl ⟨_, rfl, ⟨j + 1, rfl, by omega⟩, by simp only [Int.toNat_natCast]; omega⟩
      · rw [if_neg (by simpa using h)]
        exact Or.inr ⟨_, rfl, trivial⟩) N 0 ⟨0, rfl, by omega⟩ (by simp; omega)
  obtain ⟨x, hx, _⟩ := hA
  obtain ⟨y, hy, _⟩ := hB
  unfold M.ref48_Light
  split
  · exact ⟨_, rfl⟩
  · split
    · exact ⟨_, rfl⟩
    · split
      · exact ⟨_, rfl⟩
      · unfold M.ref48_Light_k1
        rw [hx, Option.bind_some]
        cases x with
        | inr b => exact ⟨_, rfl⟩
        | inl u =>
          rw [Sum.elim_inl]
          unfold M.ref48_Light_k2
          rw [hy, Option.bind_some]
          cases y with
          | inr b => exact ⟨_, rfl⟩
          | inl u => exact ⟨_, rfl⟩

theorem bulk_mem {e : Row} {l : List e.den} {x : e.den} (h : x ∈ l) : bulk e x ≤ bulk (.slice e) l := by
  have := le_sum_of_mem (bulk e) h
  simp only [bulk]
  omega
theorem SA_of_bulk {a : Ac} (h : bulk rAccount a ≤ 1048576) : SA a := by
  obtain ⟨⟨i1, i2, i3, f⟩, p, q, d1, d2⟩ := a
  have h1 := length_le_bulk (e := rFact) f
  have h2 := length_le_bulk (e := rPosting) p
  have h3 := length_le_bulk (e := rAppeal) q
  simp only [bulk] at h h1 h2 h3
  unfold SA
  simp only
  omega

theorem ShardMerge_true (l : List Ac) (parts : List (List Int)) (done : List (List Ac)) (_ : WF (.slice rAccount) l) (_ : WF (.slice (.slice rInt)) parts) (_ : WF (.slice (.slice rAccount)) done)
    (hb : bulk (.slice rAccount) l + bulk (.slice (.slice rInt)) parts + bulk (.slice (.slice rAccount)) done ≤ 1048576) : M.law48_ShardMerge big l parts done = some true := by
  have ha := awake_true
  have hN : 10000000 ≤ big := by decide
  have l1 := length_le_bulk (e := rAccount) l
  have l2 := length_le_bulk (e := .slice rInt) parts
  have l3 := length_le_bulk (e := .slice rAccount) done
  obtain ⟨b, hL⟩ := Light_some (N := big) l parts done (by omega) (by omega) hN
  unfold M.law48_ShardMerge
  rw [hL, Option.bind_some]
  cases b
  · rw [if_pos (by simp), ha]; rfl
  · obtain ⟨c, h1, h2, h3, h4, _⟩ := Merge_both (N := big) (parts := parts) (done := done) l (by omega)
      (fun x hx => by have e1 := bulk_mem (e := .slice rInt) hx; have e2 := length_le_bulk (e := rInt) x; omega)
      (fun d hd x hx => SA_of_bulk (by have e1 := bulk_mem (e := .slice rAccount) hd; have e2 := bulk_mem (e := rAccount) hx; omega))
      (fun x hx => SA_of_bulk (by have e2 := bulk_mem (e := rAccount) hx; omega)) (by omega) hN
    rw [if_neg (by simp), h1, Option.bind_some, h2, Option.bind_some, Accounts_refl c (by omega) h4 hN, Option.bind_some, if_pos rfl, ha]
    rfl
end L
end Go.Proofs.Ytncajogcgkmpmaa
