/- Constants folded: what FoldConstants answers (plain laws). -/
import Derived.Test.YtpgggmcpflgniaaDoorPQ4
namespace Go.Proofs.YtpgggmcpflgniaaDoor
open Go Go.RowKit
set_option maxRecDepth 100000
namespace L

/-- Each element changed where it lies. -/
theorem Loop_map {α : Type} {f : α → α} {body : Int × List α → Option ((Int × List α) ⊕ List α)} {l0 : List α} (hl : l0.length ≤ 1000)
    (hb : ∀ (j : Nat) (hj : j < l0.length) (l : List α) (hll : l.length = l0.length), l[j]'(by omega) = l0[j] → Wp (body ((j : Int), l)) fun s => s = .inl (((j + 1 : Nat) : Int), l.set j (f l0[j])))
    (he : ∀ l : List α, l.length = l0.length → Wp (body ((l0.length : Int), l)) fun s => s = .inr l) : Wp (Loop body big ((0 : Int), l0)) fun r => r = l0.map f := by
  refine Wp.loop (fun s => ∃ k : Nat, s = ((k : Int), (l0.take k).map f ++ l0.drop k) ∧ k ≤ l0.length) (fun s => (l0.length - s.1).toNat) ⟨0, by simp, Nat.zero_le _⟩ (by unfold big; simp only; omega) ?_
  rintro _ ⟨k, rfl, hk⟩
  have hlen : ((l0.take k).map f ++ l0.drop k).length = l0.length := by simp; omega
  by_cases h : k < l0.length
  · refine (hb k h _ hlen ?_).mono ?_
    · rw [List.getElem_append_right (by simp; omega)]
      simp [Nat.min_eq_left hk]
    · rintro _ rfl
      refine ⟨⟨k + 1, ?_, h⟩, by simp only; omega⟩
      refine Prod.ext rfl ?_
      show (List.map f (List.take k l0) ++ List.drop k l0).set k (f l0[k]) = _
      rw [List.set_append_right _ _ (by simp; omega), List.take_succ_eq_append_getElem h, List.map_append, List.append_assoc]
      congr 1
      rw [List.length_map, List.length_take, Nat.min_eq_left hk, Nat.sub_self, List.drop_eq_getElem_cons h]
      rfl
  · obtain rfl : k = l0.length := by omega
    refine (he _ hlen).mono ?_
    rintro _ rfl
    show _ = _
    simp

/-- The instruction at i with k literals ahead of it has the value v. -/
structure Fold (code : List Ty) (i k : Nat) (v : Vl) : Prop where
  k1 : 1 ≤ k
  ki : k ≤ i
  ex : ∃ (n : Ty) (vs : List Vl), code[i]? = some n ∧ ¬ jop n ∧ ar n.1 = k ∧ vs.length = k ∧ (∀ j, j < k → ∃ x y, code[i - k + j]? = some x ∧ vs[j]? = some y ∧ litV x = some y) ∧ apE e0 n vs = (v, 0)
  nj : ∀ m ∈ code, jop m → ¬ ((i : Int) - k < m.2 ∧ (m.2 : Int) ≤ i)

theorem fold_wp {code : List Ty} {i : Nat} (hi : i < code.length) (hl : code.length ≤ 1000) (hw : ∀ n ∈ code, WF rNode n) : Wp (M.peephole_fold big code (i : Int)) fun r => r.2.2 = true → ∃ (k : Nat) (v : Vl), r.2.1 = (k : Int) ∧ r.1 = litN v ∧ Fold code i k v := by
  have no : ∀ (c : Int) (m : Ty), ((m, c, false) : Ty × Int × Bool).2.2 = true → ∃ (k : Nat) (v : Vl), ((m, c, false) : Ty × Int × Bool).2.1 = (k : Int) ∧ ((m, c, false) : Ty × Int × Bool).1 = litN v ∧ Fold code i k v := fun c m h => by cases h
  have hn := hw _ (List.getElem_mem hi)
  have hge := List.getElem?_eq_getElem hi
  unfold M.peephole_fold
  rw [idx_nat hi]
  generalize code[i] = n at hn hge
  simp only [Option.bind_some, pisJump_eq, arity_eq]
  refine Wp.dec (fun _ => .some (no 0 ((0, 0) : Int × Int))) fun hj => ?_
  have har := ar_le n.1
  refine Wp.seq (fun j => j = false → 1 ≤ ar n.1 ∧ ar n.1 ≤ i) ?_ fun jj hjj => ?_
  · refine Wp.dec (fun _ => .some fun h => by cases h) fun h1 => .some fun h2 => ?_
    have h2 := of_decide_eq_false h2
    omega
  refine Wp.ite (fun _ => .some (no 0 ((0, 0) : Int × Int))) fun hc => ?_
  obtain ⟨q1, q2⟩ := hjj (by simpa using hc)
  obtain ⟨k, hk⟩ : ∃ k : Nat, ar n.1 = k := ⟨(ar n.1).toNat, by omega⟩
  rw [hk] at q1 q2 har ⊢
  have hk1 : 1 ≤ k := by omega
  have hki : k ≤ i := by omega
  have w1 : IntKind.i64.wrap ((i : Int) - (k : Int)) = ((i - k : Nat) : Int) := by rw [wrap_id (by omega) (by omega)]; omega
  rw [w1, cutA_eq (i - k) i rfl rfl (by omega) (by omega)]
  simp only [Option.bind_some]
  have hcl : ((code.take i).drop (i - k)).length = k := by simp; omega
  have hcg : ∀ j (h : j < ((code.take i).drop (i - k)).length), code[i - k + j]? = some (((code.take i).drop (i - k))[j]) := by
    intro j h
    rw [List.getElem_drop, List.getElem_take]
    exact List.getElem?_eq_getElem _
  obtain ⟨l6, hl6⟩ : ∃ l6, l6 = (code.take i).drop (i - k) := ⟨_, rfl⟩
  rw [← hl6]
  rw [← hl6] at hcl
  replace hcg : ∀ j (h : j < l6.length), code[i - k + j]? = some l6[j] := by subst hl6; exact hcg
  clear hl6
  refine Wp.join (Wp.loop (fun s : Int × List Vl => ∃ j : Nat, s.1 = j ∧ j ≤ k ∧ s.2.length = j ∧ ∀ t, t < j → ∃ x y, code[i - k + t]? = some x ∧ s.2[t]? = some y ∧ litV x = some y) (fun s => (k - s.1).toNat) ⟨0, rfl, Nat.zero_le _, rfl, fun t h => by omega⟩ (by unfold big; simp only; omega) ?_)
  rintro ⟨_, vs⟩ ⟨j, rfl, hjk, hvl, hv⟩
  dsimp only at hvl hv ⊢
  refine Wp.dec (fun h => ?_) fun h => .some ?_
  · have hj' : j < l6.length := by omega
    rw [idx_nat hj']
    simp only [Option.bind_some, literalValue_eq]
    cases hlv : litV l6[j] with
    | none =>
      simp only [Bool.not_false, if_true]
      exact .some (no 0 ((0, 0) : Int × Int))
    | some v =>
      simp only [Bool.not_true, Bool.false_eq_true, if_false]
      rw [appA_some (by simp; omega), wrap_succ (by omega)]
      simp only [Option.bind_some]
      refine .some ⟨⟨j + 1, rfl, by omega, by simp [hvl], fun t ht => ?_⟩, by simp only; omega⟩
      by_cases htj : t < j
      · obtain ⟨x, y, h1, h2, h3⟩ := hv t htj
        exact ⟨x, y, h1, by rw [List.getElem?_append_left (by omega)]; exact h2, h3⟩
      · obtain rfl : t = j := by omega
        exact ⟨_, v, hcg t hj', by rw [List.getElem?_append_right (by omega)]; simp [hvl], hlv⟩
  obtain rfl : j = k := by omega
  refine Wp.join (Wp.loop (fun s : Int => ∃ t : Nat, s = t ∧ t ≤ code.length ∧ ∀ m ∈ code.take t, jop m → ¬ ((i : Int) - j < m.2 ∧ (m.2 : Int) ≤ i)) (fun s => (code.length - s).toNat) ⟨0, rfl, Nat.zero_le _, by simp⟩ (by unfold big; omega) ?_)
  rintro _ ⟨t, rfl, ht, hnj⟩
  refine Wp.dec (fun h => ?_) fun h => .some ?_
  · have ht' : t < code.length := by omega
    rw [idx_nat ht']
    simp only [Option.bind_some]
    refine Wp.seq (fun b => b = false → jop code[t] → ¬ ((i : Int) - j < (code[t].2 : Int) ∧ (code[t].2 : Int) ≤ i)) ?_ fun b hb => ?_
    · refine Wp.dec (fun g1 => Wp.dec (fun g2 => .some fun g3 _ => ?_) fun g2 => .some fun _ _ g => ?_) fun g1 => .some fun _ g => absurd g g1
      · have g3 := of_decide_eq_false g3
        exact fun g => g3 g.2
      · apply g2
        have g4 := g.1
        revert g4
        generalize (code[t].2 : Int) = z
        intro g4
        dsimp only [rInt, Row.den] at *
        omega
    refine Wp.ite (fun _ => .some (no 0 ((0, 0) : Int × Int))) fun hc2 => .some ?_
    rw [wrap_succ (by omega)]
    refine ⟨⟨t + 1, rfl, ht', fun m hm hjm => ?_⟩, by simp only; omega⟩
    rw [List.take_succ_eq_append_getElem ht'] at hm
    rcases List.mem_append.1 hm with hm | hm
    · exact hnj m hm hjm
    · obtain rfl := List.mem_singleton.1 hm
      exact hb (by simpa using hc2) hjm
  rw [List.take_of_length_le (by omega)] at hnj
  show Wp ((M.eval_Apply big n vs e0).bind _) _
  obtain ⟨r, hr, hra⟩ := ap_args (args := vs) e0_ok hn (by omega)
  obtain ⟨r', hr', hrok⟩ := Apply_wp (args := vs) e0_ok hn (by omega)
  rw [hr] at hr'
  obtain rfl := Option.some.inj hr'
  rw [hr]
  simp only [Option.bind_some]
  refine Wp.ndec (fun _ => .some (no 0 ((0, 0) : Int × Int))) fun h0 => ?_
  rw [literalFor_eq _ (hrok.ok h0)]
  simp only [Option.bind_some]
  have hap : apE e0 n vs = (r.1, 0) := by
    unfold apE
    rw [hr]
    exact Prod.ext rfl h0
  exact .some fun _ => ⟨j, r.1, rfl, rfl, hk1, hki, ⟨n, vs, hge, hj, hk, hvl, hv, hap⟩, hnj⟩

def adj (i k : Nat) (n : Ty) : Ty := if jop n ∧ (i : Int) < n.2 then ((n.1, (n.2 : Int) - k) : Int × Int) else n
def repl (code : List Ty) (i k : Nat) (m : Ty) : List Ty := ((code.take (i - k) ++ [m]) ++ code.drop (i + 1)).map (adj i k)

theorem repl_wp {code : List Ty} {i k : Nat} {m : Ty} (hi : i < code.length) (hk : k ≤ i) (hl : code.length ≤ 1000) (hw : ∀ n ∈ code, WF rNode n) (hm : ¬ jop m) : Wp (M.peephole_replaceOperands big code (i : Int) (k : Int) m) fun r => r = repl code i k m := by
  unfold M.peephole_replaceOperands
  have w1 : IntKind.i64.wrap ((i : Int) - (k : Int)) = ((i - k : Nat) : Int) := by rw [wrap_id (by omega) (by omega)]; omega
  rw [w1, cutA_zero (by omega), wrap_succ (by omega), cutA_eq (i + 1) code.length rfl rfl (by omega) (Nat.le_refl _), List.take_length]
  simp only [Option.bind_some]
  rw [appA_some (by simp; omega)]
  simp only [Option.bind_some, List.nil_append]
  rw [appA_some (by simp; omega)]
  simp only [Option.bind_some]
  rw [appA_some (by simp; omega)]
  simp only [Option.bind_some]
  have hwl : ∀ n ∈ (code.take (i - k) ++ [m]) ++ code.drop (i + 1), n = m ∨ n ∈ code := by
    intro n hn
    rcases List.mem_append.1 hn with hn | hn
    · rcases List.mem_append.1 hn with hn | hn
      · exact .inr (List.mem_of_mem_take hn)
      · exact .inl (List.mem_singleton.1 hn)
    · exact .inr (List.mem_of_mem_drop hn)
  have hll : ((code.take (i - k) ++ [m]) ++ code.drop (i + 1)).length ≤ 1000 := by simp; omega
  unfold repl
  generalize (code.take (i - k) ++ [m]) ++ code.drop (i + 1) = l5 at hwl hll ⊢
  refine Loop_map hll (fun j hj l hlen hlj => ?_) fun l hlen => ?_
  · have hj2 : j < l.length := by omega
    have hm' := hwl _ (List.getElem_mem hj)
    dsimp only
    rw [idx_nat hj2, hlj]
    simp only [Option.bind_some, pisJump_eq, ite_some]
    generalize hx : l5[j] = x at hm' hlj ⊢
    refine .some ?_
    rw [if_pos (decide_eq_true (by omega)), wrap_succ (by omega)]
    have hw' : jop x → WF rNode x := fun h => hm'.elim (fun e => absurd (e ▸ h) hm) (hw x)
    have e : (if (if decide (50 ≤ (x.1 : Int) ∧ (x.1 : Int) ≤ 53) = true then decide ((i : Int) < x.2) else false) = true then setL l (j : Int) ((x.1, IntKind.i64.wrap ((x.2 : Int) - (k : Int))) : Int × Int) else l) = l.set j (adj i k x) := by
      unfold adj
      by_cases h : jop x ∧ (i : Int) < x.2
      · have hwx := (hw' h.1).2.2
        have g : (50 ≤ (x.1 : Int) ∧ (x.1 : Int) ≤ 53) := h.1
        have w2 : IntKind.i64.wrap ((x.2 : Int) - (k : Int)) = (x.2 : Int) - k := by
          have h2 := h.2
          revert hwx h2
          generalize (x.2 : Int) = z
          intro hwx h2
          have : z ≤ 9223372036854775807 := hwx
          dsimp only [rInt, Row.den] at *
          exact wrap_id (by omega) (by omega)
        rw [if_pos h, if_pos (by simp [g, h.2]), w2]
        simp [setL]
      · rw [if_neg h, if_neg (fun hc => h ?_)]
        · rw [← hlj]; simp
        · by_cases g : (50 ≤ (x.1 : Int) ∧ (x.1 : Int) ≤ 53)
          · rw [if_pos (decide_eq_true g)] at hc
            exact ⟨g, by simpa using hc⟩
          · rw [if_neg (by simpa using g)] at hc
            cases hc
    rw [e]
  · dsimp only
    exact Wp.dec (fun h => by omega) fun _ => .some rfl
end L
end Go.Proofs.YtpgggmcpflgniaaDoor
