/- Chapter 14: an exception takes precedence over its parent (plain law). -/
import Derived.Test.YtkkinabadiaieaaP14b
namespace Go.Proofs.Ytkkinabadiaieaa
open Go Go.RowKit
namespace L

/-- From a rule up to its root. -/
def path (p : List Int) : Nat → Int → List Int
  | 0, _ => []
  | k + 1, x => x :: (if 0 ≤ at' 0 p x then path p k (at' 0 p x) else [])

theorem par_lt {p q : List Int} (hv : V p q) {x : Int} (h0 : 0 ≤ x) (h : x < p.length) : -1 ≤ at' 0 p x ∧ at' 0 p x < x := by
  obtain ⟨j, rfl⟩ := Int.eq_ofNat_of_zero_le h0
  exact hv.par j (by omega)

theorem path_mem {p q : List Int} (hv : V p q) : ∀ (k : Nat) (x c : Int), 0 ≤ x → x < p.length → c ∈ path p k x → 0 ≤ c ∧ c ≤ x
  | 0, _, _, _, _, h => by cases h
  | k + 1, x, c, h0, h1, h => by
    have hp := par_lt hv h0 h1
    rcases List.mem_cons.1 h with rfl | h
    · omega
    · split at h
      · rename_i h2
        have := path_mem hv k (at' 0 p x) c h2 (by omega) h
        omega
      · cases h
theorem path_self {p : List Int} {k : Nat} {x : Int} : x ∈ path p (k + 1) x := by simp [path]
theorem path_up {p q : List Int} (hv : V p q) : ∀ (k : Nat) (x c : Int), 0 ≤ x → x < p.length → x < k → c ∈ path p k x → 0 ≤ at' 0 p c → at' 0 p c ∈ path p k x
  | 0, _, _, _, _, _, h, _ => by cases h
  | k + 1, x, c, h0, h1, hk, h, hc => by
    have hp := par_lt hv h0 h1
    rcases List.mem_cons.1 h with rfl | h
    · obtain ⟨k, rfl⟩ : ∃ m, k = m + 1 := ⟨k - 1, by omega⟩
      refine List.mem_cons_of_mem _ ?_
      rw [if_pos hc]
      exact path_self
    · refine List.mem_cons_of_mem _ ?_
      split at h
      · rename_i h2
        rw [if_pos h2]
        exact path_up hv k _ c h2 (by omega) (by omega) h hc
      · cases h
theorem path_inj {p q : List Int} (hv : V p q) : ∀ (k : Nat) (x c d : Int), 0 ≤ x → x < p.length → c ∈ path p k x → d ∈ path p k x → at' 0 p c = at' 0 p d → c = d
  | 0, _, _, _, _, _, h, _, _ => by cases h
  | k + 1, x, c, d, h0, h1, hc, hd, he => by
    have hp := par_lt hv h0 h1
    have tail : ∀ d, d ∈ (if 0 ≤ at' 0 p x then path p k (at' 0 p x) else []) → 0 ≤ at' 0 p x ∧ d ∈ path p k (at' 0 p x) ∧ at' 0 p d < at' 0 p x := fun d hd => by
      split at hd
      · rename_i h2
        have h3 := path_mem hv k _ d h2 (by omega) hd
        have h4 := par_lt hv h3.1 (by omega)
        exact ⟨h2, hd, by omega⟩
      · cases hd
    rcases List.mem_cons.1 hc with rfl | hc
    · rcases List.mem_cons.1 hd with rfl | hd
      · rfl
      · have := tail d hd; omega
    · have t1 := tail c hc
      rcases List.mem_cons.1 hd with rfl | hd
      · omega
      · have t2 := tail d hd
        exact path_inj hv k _ c d t1.1 (by omega) t1.2.1 t2.2.1 he
theorem path_down {p q : List Int} (hv : V p q) : ∀ (k : Nat) (x c : Int), 0 ≤ x → x < p.length → x < k → (c ∈ path p k x ∨ c = -1) → c ≠ x → ∃ d, d ∈ path p k x ∧ at' 0 p d = c
  | 0, _, _, _, _, _, _, _ => by omega
  | k + 1, x, c, h0, h1, hk, hc, hne => by
    have hp := par_lt hv h0 h1
    by_cases e : at' 0 p x = c
    · exact ⟨x, path_self, e⟩
    · have h2 : 0 ≤ at' 0 p x := by
        rcases hc with hc | hc
        · rcases List.mem_cons.1 hc with hc | hc
          · exact absurd hc hne
          · split at hc
            · assumption
            · cases hc
        · omega
      have hc' : c ∈ path p k (at' 0 p x) ∨ c = -1 := by
        rcases hc with hc | hc
        · rcases List.mem_cons.1 hc with hc | hc
          · exact absurd hc hne
          · rw [if_pos h2] at hc; exact .inl hc
        · exact .inr hc
      obtain ⟨d, h3, h4⟩ := path_down hv k _ c h2 (by omega) (by omega) hc' (fun h => e h.symm)
      exact ⟨d, List.mem_cons_of_mem _ (by rw [if_pos h2]; exact h3), h4⟩

theorem path_len {p : List Int} : ∀ (k : Nat) (x : Int), (path p k x).length ≤ k
  | 0, _ => Nat.le_refl _
  | k + 1, x => by
    unfold path
    have := path_len (p := p) k (at' 0 p x)
    split <;> simp only [List.length_cons, List.length_nil] <;> omega

theorem Path_loop {p q : List Int} (hv : V p q) : ∀ (k N : Nat) (x : Int) (acc : List Int), 0 ≤ x → x < p.length → x < k → k < N → acc.length + k ≤ 100 → Loop (S := Int × List Int) (X := List Int) (fun s2 =>
((idx p s2.1).bind fun x4 =>
(if (decide ((0 : Int) ≤ x4)) = true then
(idx p s2.1).bind fun x5 =>
some (decide (x5 < s2.1))
else
some false) : Option (Bool)).bind fun j3 =>
(if j3 = true then
(idx p s2.1).bind fun x6 =>
(appA s2.2 ([x6] : List Int)).bind fun l7 =>
some (Sum.inl (x6, l7))
else
some (Sum.inr s2.2))) N (x, acc ++ [x]) = some (acc ++ path p k x)
  | 0, _, _, _, _, _, h, _, _ => by omega
  | k + 1, N, x, acc, h0, h1, hk, hN, hl => by
    obtain ⟨N, rfl⟩ : ∃ n, N = n + 1 := ⟨N - 1, by omega⟩
    have hp := par_lt hv h0 h1
    unfold Loop path
    simp only [idx_at 0 h0 h1, Option.bind_some]
    by_cases h2 : 0 ≤ at' 0 p x
    · simp only [h2, decide_true, if_true, Option.bind_some, hp.2]
      rw [appA_some (by simp; omega)]
      simp only [Option.bind_some]
      have := Path_loop hv k N (at' 0 p x) (acc ++ [x]) h2 (by omega) (by omega) (by omega) (by simp; omega)
      rw [this]
      simp
    · simp only [h2, decide_false, Bool.false_eq_true, if_false, Option.bind_some]

theorem Path_eq {N : Nat} {p q : List Int} (hv : V p q) {x : Int} (h0 : 0 ≤ x) (h1 : x < p.length) (hN : 20 ≤ N) : M.ruletree_Path N p x = some (path p 9 x) := by
  have h8 := hv.n8
  unfold M.ruletree_Path
  have h2 : ¬ x < 0 := by omega
  have h3 : ¬ (p.length : Int) ≤ x := by omega
  simp only [h2, h3, decide_false, Bool.false_eq_true, if_false, Option.bind_some]
  exact Path_loop hv 9 N x [] h0 h1 (by omega) (by omega) (by simp)

section
variable {p q : List Int} (hv : V p q) {a : List Bool} {x : Int} (h0 : 0 ≤ x) (h1 : x < p.length) (hA : ∀ i : Int, 0 ≤ i → i < p.length → (at' false a i = true ↔ i ∈ path p 9 x))
include hv h0 h1 hA

theorem off_path : ∀ (d : Nat) (i : Int), 0 ≤ i → i < p.length → 8 ≤ i + d → i ∉ path p 9 x → O p q a i = -1
  | 0, i, h2, h3, h, _ => by have := hv.n8; omega
  | d + 1, i, h2, h3, h, hi => by
    have h8 := hv.n8
    have hc : C p q a i = -1 := C_neg.2 fun c hm => by
      have := ch_gt hv hm
      refine off_path d c (by omega) (by omega) (by omega) fun hc => hi ?_
      have e := (mem_ch.1 hm).2.2
      have := path_up hv 9 x c h0 h1 (by omega) hc (by omega)
      rw [e] at this
      exact this
    rw [O_eq hv a (by omega), if_neg (fun h => hi ((hA i h2 h3).1 h.2)), hc]

theorem C_on {i : Int} (hi : i ∈ path p 9 x ∨ i = -1) (hne : i ≠ x) (ih : ∀ d, i < d → d ∈ path p 9 x → O p q a d = x) : C p q a i = x := by
  have h8 := hv.n8
  obtain ⟨d, h2, h3⟩ := path_down hv 9 x i h0 h1 (by omega) hi hne
  have hd := path_mem hv 9 x d h0 h1 h2
  have hm : d ∈ ch p i := mem_ch.2 ⟨by omega, by omega, h3⟩
  have hg := ch_gt hv hm
  have hO := ih d hg.1 h2
  rw [C_of_one (c := d), hO]
  refine (best_one (nodup_ch p i)).2 ⟨hm, by omega, fun c hc hl hcd => absurd ?_ hl⟩
  have := ch_gt hv hc
  refine off_path hv h0 h1 hA 8 c (by omega) (by omega) (by omega) fun hcp => hcd ?_
  exact path_inj hv 9 x c d h0 h1 hcp h2 (by rw [h3, (mem_ch.1 hc).2.2])

theorem on_path : ∀ (d : Nat) (i : Int), 0 ≤ i → i < p.length → 8 ≤ i + d → i ∈ path p 9 x → O p q a i = x
  | 0, i, h2, h3, h, _ => by have := hv.n8; omega
  | d + 1, i, h2, h3, h, hi => by
    rw [O_eq hv a (by omega)]
    by_cases e : i = x
    · subst e
      have hc : C p q a i = -1 := C_neg.2 fun c hm => by
        have := ch_gt hv hm
        refine off_path hv h0 h1 hA 8 c (by omega) (by omega) (by omega) fun hc => ?_
        have := path_mem hv 9 i c h0 h1 hc
        omega
      rw [if_pos ⟨hc, (hA i h2 h3).2 hi⟩]
    · have hc := C_on hv h0 h1 hA (.inl hi) e (fun c hc hm => by
        have := path_mem hv 9 x c h0 h1 hm
        exact on_path d c (by omega) (by omega) (by omega) hm)
      rw [if_neg (by omega), hc]
theorem root_path : C p q a (-1) = x := C_on hv h0 h1 hA (.inr rfl) (by omega) fun c _ hm => by
  have := path_mem hv 9 x c h0 h1 hm
  exact on_path hv h0 h1 hA 8 c (by omega) (by omega) (by omega) hm
end

/-- The rules of a path apply. -/
def marks (n : Nat) (l : List Int) : List Bool := (List.range n).map fun j : Nat => decide ((j : Int) ∈ l)
theorem marks_len (n : Nat) (l : List Int) : (marks n l).length = n := by simp [marks]
theorem marks_at {n : Nat} {l : List Int} {i : Int} (h0 : 0 ≤ i) (h : i < n) : at' false (marks n l) i = decide (i ∈ l) := by
  obtain ⟨k, rfl⟩ := Int.eq_ofNat_of_zero_le h0
  unfold marks
  rw [at_nat (by simp; omega), List.getElem_map, List.getElem_range]
theorem marks_set {n : Nat} {l : List Int} {c : Int} (h0 : 0 ≤ c) : setL (marks n l) c true = marks n (l ++ [c]) := by
  unfold setL marks
  rw [set_map_range]
  refine List.map_congr_left fun j _ => ?_
  have : j = c.toNat ↔ (j : Int) = c := by omega
  by_cases h : j = c.toNat
  · rw [if_pos h]; simp [this.1 h]
  · rw [if_neg h]; simp [show ¬ (j : Int) = c from fun e => h (this.2 e)]

theorem or3v (x y z : Bool) (m : Option Int) {α : Type} (k : Bool → Option α) (e : Int) (hm : m = some e) : ((if x = true then some true else (if y = true then some true else (if z = true then some true else m.bind fun y2 => some (!decide (y2 = (0 : Int))))) : Option Bool).bind k) = k (x || y || z || !decide (e = 0)) := by
  subst hm
  cases x <;> cases y <;> cases z <;> rfl

theorem RuletreeExceptions_true (p q : List Int) (at_ : Int) (_ : WF (.slice rInt) p) (_ : WF (.slice rInt) q) (hx : WF (.int .u8) at_) : M.law14_RuletreeExceptions big p q at_ = some true := by
  unfold M.law14_RuletreeExceptions
  obtain ⟨e, he, hv⟩ := Validate_ok (N := big) p q (by decide)
  rw [awake, or3v _ _ _ _ _ e he]
  by_cases hc : (decide ((100 : Int) < (p.length : Int)) || decide ((100 : Int) < (q.length : Int)) || decide ((p.length : Int) = 0) || !decide (e = 0)) = true
  · rw [if_pos hc]; rfl
  rw [if_neg hc]
  simp only [Bool.or_eq_true, decide_eq_true_eq, Bool.not_eq_true', decide_eq_false_iff_not, not_or, Decidable.not_not] at hc
  obtain ⟨⟨⟨_, _⟩, hn⟩, he0⟩ := hc
  have hv := hv he0
  rw [he0] at he
  have h8 := hv.n8
  have hu : 0 ≤ at_ ∧ at_ ≤ 255 := by
    have h1 : IntKind.u8.min ≤ at_ := hx.1
    have h2 : at_ ≤ IntKind.u8.max := hx.2
    have e1 : IntKind.u8.min = 0 := rfl
    have e2 : IntKind.u8.max = 255 := rfl
    omega
  have hm : mkL (p.length : Int) false = some (marks p.length []) := by
    unfold mkL marks
    rw [if_pos (by omega)]
    refine congrArg some (List.ext_getElem (by simp) fun j h1 h2 => ?_)
    simp
  have hr : remA (IntKind.i64.wrap at_) (p.length : Int) = some (at_ % p.length) := by
    unfold remA
    rw [if_neg hn, wrap_id (by omega) (by omega), Int.tmod_eq_emod_of_nonneg (by omega)]
  have h0 : 0 ≤ at_ % (p.length : Int) := Int.emod_nonneg _ hn
  have h1 : at_ % (p.length : Int) < p.length := Int.emod_lt_of_pos _ (by omega)
  rw [hm, hr]
  simp only [Option.bind_some]
  generalize hxx : at_ % (p.length : Int) = x at *
  rw [Path_eq hv h0 h1 (by decide)]
  simp only [Option.bind_some]
  have hpl := path_len (p := p) 9 x
  rw [Loop_eq (fun k : Nat => ((k : Int), marks p.length ((path p 9 x).take k))) (path p 9 x).length (.inl (marks p.length (path p 9 x))) (by simp) ?_ ?_ (by have : big = 18446744073709551616 := rfl; omega)]
  · show Option.bind (if _ then _ else _) _ = _
    have h2 : (0 : Int) < ((path p 9 x).length : Int) := by
      have : 0 < (path p 9 x).length := List.length_pos_of_mem (path_self (p := p) (k := 8) (x := x))
      omega
    have h3 : idx (path p 9 x) 0 = some x := rfl
    rw [if_pos (by simpa using h2), h3]
    simp only [Option.bind_some, decide_true, if_true]
    rw [Select_valid (by decide) he (marks_len _ _), root_path hv h0 h1 (fun i hi hi' => by rw [marks_at hi hi']; simp)]
    simp
  · intro k hk
    have hw : IntKind.i64.wrap ((k : Int) + 1) = ((k + 1 : Nat) : Int) := by rw [wrap_id] <;> omega
    have hc := path_mem hv 9 x _ h0 h1 (List.getElem_mem hk)
    simp only
    rw [if_pos (by simp; omega), idx_nat hk]
    simp only [Option.bind_some]
    have e1 : ¬ (path p 9 x)[k] < 0 := by omega
    have e2 : ¬ ((marks p.length ((path p 9 x).take k)).length : Int) ≤ (path p 9 x)[k] := by rw [marks_len]; omega
    simp only [e1, e2, decide_false, Bool.false_eq_true, if_false, Option.bind_some]
    rw [idx_at false hc.1 (by rw [marks_len]; omega), Option.bind_some, marks_set hc.1, hw, List.take_succ_eq_append_getElem hk]
  · simp only
    rw [if_neg (by simp), List.take_length]
end L
end Go.Proofs.Ytkkinabadiaieaa
