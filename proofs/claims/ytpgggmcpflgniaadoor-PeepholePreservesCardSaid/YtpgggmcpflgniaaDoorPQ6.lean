/- One constant folded: code that answers the same (plain laws). -/
import Derived.Test.YtpgggmcpflgniaaDoorPQ5
namespace Go.Proofs.YtpgggmcpflgniaaDoor
open Go Go.RowKit
set_option maxRecDepth 100000
namespace L

theorem ar_jop {n : Ty} (h : jop n) : ar n.1 = -1 := by
  obtain ⟨(o : Int), (m : Int)⟩ := n
  have h' : 50 ≤ o ∧ o ≤ 53 := h
  show ar o = -1
  unfold ar
  rw [if_neg (by omega), if_neg (by omega), if_neg (by omega), if_neg (by omega)]

theorem adj_fst (i k : Nat) (n : Ty) : ((adj i k n).1 : Int) = n.1 := by
  unfold adj
  split <;> rfl
theorem adj_non {i k : Nat} {n : Ty} (h : ¬ jop n) : adj i k n = n := by
  unfold adj
  rw [if_neg (fun g => h g.1)]

section
variable {code : List Ty} {i k : Nat} {m : Ty}

theorem repl_len (hi : i < code.length) (hk : k ≤ i) : (repl code i k m).length + k = code.length := by
  simp [repl]
  omega
theorem repl_lt {q : Nat} (hi : i < code.length) (h : q < i - k) : (repl code i k m)[q]? = (code[q]?).map (adj i k) := by
  unfold repl
  rw [List.getElem?_map, List.append_assoc, List.getElem?_append_left (by simp; omega), List.getElem?_take_of_lt h]
theorem repl_eq (hi : i < code.length) (hm : ¬ jop m) : (repl code i k m)[i - k]? = some m := by
  unfold repl
  rw [List.getElem?_map, List.append_assoc, List.getElem?_append_right (by simp; omega), List.length_take, Nat.min_eq_left (by omega), Nat.sub_self]
  simp [adj_non hm]
theorem repl_gt {q : Nat} (hi : i < code.length) (hk : k ≤ i) (h : i - k < q) : (repl code i k m)[q]? = (code[q + k]?).map (adj i k) := by
  unfold repl
  rw [List.getElem?_map, List.getElem?_append_right (by simp; omega), List.length_append, List.length_take, Nat.min_eq_left (by omega), List.length_singleton, List.getElem?_drop]
  congr 2
  omega

theorem gd_get (F : List Int) (q : Nat) : gd F q = (F[q]?).getD (-1) := rfl

/-- The old position and the new one. -/
def FR (code : List Ty) (F : List Int) (i k : Nat) (p q : Nat) : Prop := 0 ≤ gd F p ∧ p ≤ code.length ∧ ((p ≤ i - k ∧ q = p) ∨ (i < p ∧ q + k = p))

theorem fold_same {v : Vl} {F : List Int} (f : Fits code F) (hi : i < code.length) (h : Fold code i k v) (hw : ∀ n ∈ code, WF rNode n) : Same code (repl code i k (litN v)) := by
  obtain ⟨hk1, hki, ⟨n, vs, hn, hj, ha, hvl, hvs, hap⟩, hnj⟩ := h
  have hwn := hw n (List.mem_of_getElem? hn)
  have hpl : ∀ u ∈ vs, Plaus u.1 u.2.1 u.2.2 := by
    obtain ⟨r, hr, hh⟩ := ap_args (args := vs) e0_ok hwn (by have := ar_le n.1; omega)
    have e : r = (v, 0) := by
      unfold apE at hap
      rw [hr] at hap
      exact hap
    rw [e] at hh
    exact (hh rfl).2
  have hpv : Plaus v.1 v.2.1 v.2.2 := by
    have := (ap_ok (args := vs) e0_ok hwn (by have := ar_le n.1; omega)).ok (by rw [hap])
    rw [hap] at this
    exact this
  obtain ⟨hlv, hlw⟩ := litN_ok hpv
  obtain ⟨l1, l2, l3⟩ := litV_lit hlv
  have hbl := repl_len (m := litN v) hi hki
  have hle := f.le
  have hFl := f.len
  have g1 : ∀ q, q ≤ i - k → gd (F.take (i - k + 1) ++ F.drop (i + 1)) q = gd F q := by
    intro q hq
    rw [gd_get, List.getElem?_append_left (by simp; omega), List.getElem?_take_of_lt (by omega)]
    rfl
  have g2 : ∀ q, i - k < q → gd (F.take (i - k + 1) ++ F.drop (i + 1)) q = gd F (q + k) := by
    intro q hq
    rw [gd_get, List.getElem?_append_right (by simp; omega), List.length_take, Nat.min_eq_left (by omega), List.getElem?_drop, gd_get]
    congr 2
    omega
  have dep : ∀ p q, FR code F i k p q → gd (F.take (i - k + 1) ++ F.drop (i + 1)) q = gd F p := by
    rintro p q ⟨_, _, ⟨a1, rfl⟩ | ⟨a1, a2⟩⟩
    · exact g1 _ a1
    · rw [g2 _ (by omega), a2]
  -- a step that stands ahead of the folded ones or behind them
  have keep : ∀ p q x, FR code F i k p q → p ≠ i - k → code[p]? = some x → Go1 code (repl code i k (litN v)) (FR code F i k) p q := by
    rintro p q x ⟨b1, b2, b3⟩ hne hx
    have hlt : p < code.length := (List.getElem?_eq_some_iff.1 hx).1
    have hb : (repl code i k (litN v))[q]? = some (adj i k x) := by
      rcases b3 with ⟨a1, rfl⟩ | ⟨a1, rfl⟩
      · rw [repl_lt hi (by omega), hx]; rfl
      · rw [repl_gt hi hki (by omega), hx]; rfl
    have next : 0 ≤ gd F (p + 1) → FR code F i k (p + 1) (q + 1) := fun h => ⟨h, hlt, by omega⟩
    have tgt : ∀ t : Nat, jop x → (x.2 : Int) = t → p < t → t ≤ code.length → 0 ≤ gd F t → ∃ t' : Nat, ((adj i k x).2 : Int) = t' ∧ q < t' ∧ FR code F i k t t' := by
      intro t hjx ht hpt htl ht0
      have hn := hnj x (List.mem_of_getElem? hx) hjx
      rw [ht] at hn
      have hn : ¬ ((i : Int) - k < (t : Int) ∧ (t : Int) ≤ i) := hn
      by_cases hc : i < t
      · refine ⟨t - k, ?_, by omega, ht0, htl, .inr ⟨hc, by omega⟩⟩
        unfold adj
        rw [if_pos ⟨hjx, by rw [ht]; exact (by omega : (i : Int) < (t : Int))⟩]
        show (x.2 : Int) - k = _
        rw [ht]
        exact (by omega : (t : Int) - k = ((t - k : Nat) : Int))
      · refine ⟨t, ?_, by omega, ht0, htl, .inl ⟨by omega, rfl⟩⟩
        unfold adj
        rw [if_neg (fun g => by have g2 := g.2; rw [ht] at g2; have g2 : (i : Int) < (t : Int) := g2; omega)]
        exact ht
    by_cases hjx : jop x
    · obtain ⟨s1, _⟩ := f.at hx b1
      rcases s1 with ⟨c1, t, c2, c3, c4, c5⟩ | ⟨c1, c2, c3, t, c4, c5, c6, c7⟩ | ⟨c1, c2, _⟩
      · obtain ⟨t', d1, d2, d3⟩ := tgt t hjx c2 c3 c4 (by omega)
        exact .jump hx hb c1 ((adj_fst i k x).trans c1) c2 d1 d2 d3
      · obtain ⟨t', d1, d2, d3⟩ := tgt t hjx c4 c5 c6 (by rw [c7]; split <;> omega)
        exact .cond hx hb c1 (adj_fst i k x) c4 d1 d2 d3 (next (by omega))
      · exact (jop_cases hjx).elim (fun e => absurd e c1) (fun e => absurd e c2)
    · rw [adj_non hjx] at hb
      obtain ⟨s1, s2, s3, _⟩ := f.op hx hjx b1
      exact .op hx hb hjx (next (by omega))
  have blk : 0 ≤ gd F (i - k) → Go1 code (repl code i k (litN v)) (FR code F i k) (i - k) (i - k) := by
    intro h0
    have hd := lits_depth f h0 k fun j hj => by
      obtain ⟨x, y, x1, _, x2⟩ := hvs j hj
      obtain ⟨y1, y2, _⟩ := litV_lit x2
      exact ⟨x, x1, y1, y2⟩
    have e1 : i - k + k = i := by omega
    rw [e1] at hd
    obtain ⟨s1, s2, s3, _⟩ := f.op hn hj (by omega)
    refine .block (k := k) (n := n) (m := litN v) (vs := vs) (v := v) (fun j hj' => ?_) hvl (by rw [e1]; exact hn) hj ha (fun env _ => ?_) (repl_eq hi l1) l1 l2 l3 (fun env _ => lit_ap hlv hpv env) ?_
    · obtain ⟨x, y, x1, x2, x3⟩ := hvs j hj'
      obtain ⟨y1, y2, _⟩ := litV_lit x3
      exact ⟨x, y, x1, x2, y1, y2, fun env _ => lit_ap x3 (hpl y (List.mem_of_getElem? x2)) env⟩
    · rw [ap_env hwn (by omega) (by rw [hap]) env, hap]
    · rw [e1]
      exact ⟨by omega, by omega, .inr ⟨by omega, by omega⟩⟩
  have bwd : Bd F := f.bd
  have s : Sim code (repl code i k (litN v)) F (F.take (i - k + 1) ++ F.drop (i + 1)) (FR code F i k) := by
    refine ⟨f, by omega, by omega, by simp; omega, fun q => ?_, fun p q h => ⟨h.1, h.2.1, ?_, dep p q h⟩, fun p q h => ?_, fun q hq h0 => ?_, ⟨by rw [f.first]; decide, Nat.zero_le _, .inl ⟨Nat.zero_le _, rfl⟩⟩, ⟨by rw [f.last]; decide, Nat.le_refl _, .inr ⟨hi, by omega⟩⟩⟩
    · by_cases hq : q ≤ i - k
      · rw [g1 q hq]; exact bwd q
      · rw [g2 q (by omega)]; exact bwd _
    · obtain ⟨_, a2, a3⟩ := h
      omega
    · by_cases hp : p = code.length
      · left
        refine ⟨hp, ?_⟩
        obtain ⟨_, a2, a3⟩ := h
        omega
      · right; left
        have hlt : p < code.length := by have := h.2.1; omega
        by_cases hpk : p = i - k
        · obtain ⟨a1, a2, a3⟩ := h
          have hq : q = i - k := by omega
          subst hpk
          rw [hq]
          exact blk a1
        · exact keep p q _ h hpk (List.getElem?_eq_getElem hlt)
    · by_cases hqk : q ≤ i - k
      · rw [g1 q hqk] at h0
        have hR : FR code F i k q q := ⟨h0, by omega, .inl ⟨hqk, rfl⟩⟩
        by_cases he : q = i - k
        · subst he; exact ⟨_, hR, blk h0⟩
        · exact ⟨q, hR, keep q q _ hR he (List.getElem?_eq_getElem (by omega))⟩
      · rw [g2 q (by omega)] at h0
        have hR : FR code F i k (q + k) q := ⟨h0, by omega, .inr ⟨by omega, rfl⟩⟩
        exact ⟨q + k, hR, keep _ q _ hR (by omega) (List.getElem?_eq_getElem (by omega))⟩
  refine s.same (by omega) fun x hx => ?_
  obtain ⟨y, hy, rfl⟩ := List.mem_map.1 hx
  have hy' : WF rNode y := by
    rcases List.mem_append.1 hy with hy | hy
    · rcases List.mem_append.1 hy with hy | hy
      · exact hw y (List.mem_of_mem_take hy)
      · obtain rfl := List.mem_singleton.1 hy; exact hlw
    · exact hw y (List.mem_of_mem_drop hy)
  unfold adj
  split
  · rename_i hc
    refine ⟨hy'.1, ?_, ?_⟩
    · have h2 := hc.2
      have h3 := hy'.2.1
      show (-9223372036854775808 : Int) ≤ (y.2 : Int) - k
      revert h2 h3
      generalize (y.2 : Int) = z
      intro h2 h3
      dsimp only [rInt, Row.den] at *
      omega
    · have h3 := hy'.2.2
      show (y.2 : Int) - k ≤ (9223372036854775807 : Int)
      revert h3
      generalize (y.2 : Int) = z
      intro h3
      have h4 : z ≤ (9223372036854775807 : Int) := h3
      dsimp only [rInt, Row.den] at *
      omega
  · exact hy'
end

/-- A slice of its own with the same elements. -/
theorem clone_eq {l : List Ty} (hl : l.length ≤ 1000) : M.slices_Clone_guerdon_api_Node_guerdon_api_Node big l = some l := by
  unfold M.slices_Clone_guerdon_api_Node_guerdon_api_Node
  have e : appA ([] : List rNode.den) l = some l := by rw [appA_some (by simp; omega)]; rfl
  rw [e]
  simp only [Option.bind_some]
  split
  · rename_i h
    have : l = [] := List.length_eq_zero_iff.1 (Nat.eq_of_beq_eq_true h)
    subst this
    unfold Both
    rw [if_pos rfl]
  · rfl
theorem accepted_wp (code : List Ty) : Wp (M.peephole_accepted big code) fun b => b = true ↔ ∃ F, Fits code F := by
  unfold M.peephole_accepted
  obtain ⟨y, hy, h⟩ := Verify_fits code
  rw [hy]
  simp only [Option.bind_some]
  refine .some ⟨fun hb => h (by simpa using hb), fun ⟨F, f⟩ => ?_⟩
  obtain ⟨y', hy', h'⟩ := f.verify
  rw [hy] at hy'
  obtain rfl := Option.some.inj hy'
  simpa using h'

/-- No constant is left that could be folded. -/
def NoFold (code : List Ty) : Prop := ∀ i : Nat, i < code.length → Wp (M.peephole_fold big code (i : Int)) fun r => r.2.2 = false

theorem Fold_wp {code : List Ty} (hl : code.length ≤ 1000) (hw : ∀ n ∈ code, WF rNode n) : Wp (M.peephole_FoldConstants big code) fun y => ((¬ ∃ F, Fits code F) ∧ y = code) ∨ ((∃ F, Fits code F) ∧ Same code y ∧ NoFold y) := by
  unfold M.peephole_FoldConstants
  rw [clone_eq hl]
  simp only [Option.bind_some]
  obtain ⟨b, hb, hb2⟩ := accepted_wp code
  rw [hb]
  simp only [Option.bind_some]
  refine Wp.join (Wp.ite (fun hc => .some ?_) fun hc => .some ?_)
  · exact .inl ⟨fun h => (by rw [hb2.2 h] at hc; cases hc), rfl⟩
  have hF : ∃ F, Fits code F := hb2.1 (by simpa using hc)
  have same0 : Same code code := ⟨hF, Nat.le_refl _, hw, fun _ _ _ h => h⟩
  refine Wp.loop (fun s : List Ty => Same code s) (fun s => s.length) same0 (by unfold big; omega) ?_
  intro s hs
  have hsl : s.length ≤ 1000 := Nat.le_trans hs.le hl
  refine Wp.join (Wp.loop (fun t : Int × List Ty => ∃ i : Nat, t.1 = i ∧ i ≤ s.length ∧ t.2 = s ∧ ∀ j, j < i → Wp (M.peephole_fold big s (j : Int)) fun r => r.2.2 = false) (fun t => (s.length - t.1).toNat) ⟨0, rfl, Nat.zero_le _, rfl, fun j h => by omega⟩ (by unfold big; simp only; omega) ?_)
  rintro ⟨_, s⟩ ⟨i, rfl, hi, rfl, hno⟩
  dsimp only at hi hno hsl hs ⊢
  refine Wp.dec (fun h => ?_) fun h => .some (.some ?_)
  · have hi' : i < s.length := by omega
    obtain ⟨r, hr, hr2⟩ := fold_wp hi' hsl hs.wf
    rw [hr]
    simp only [Option.bind_some]
    refine Wp.ite (fun h1 => ?_) fun h1 => .some ?_
    · obtain ⟨k, v, e1, e2, hf⟩ := hr2 h1
      have hpv : ¬ jop (litN v) := by
        obtain ⟨n, vs, hn, _, _, hvl, _, hap⟩ := hf.ex
        have := (ap_ok (args := vs) e0_ok (hs.wf n (List.mem_of_getElem? hn)) (by have := hf.ki; omega)).ok (by rw [hap])
        rw [hap] at this
        exact (litV_lit (litN_ok this).1).1
      rw [e1, e2]
      refine Wp.seq _ (repl_wp hi' hf.ki hsl hs.wf hpv) fun y hy => .some ?_
      obtain ⟨F, f⟩ := hs.fits
      rw [hy]
      refine ⟨hs.trans (fold_same f hi' hf hs.wf), ?_⟩
      have := repl_len (m := litN v) hi' hf.ki
      have := hf.k1
      show (repl s i k (litN v)).length < s.length
      omega
    · rw [wrap_succ (by omega)]
      refine ⟨⟨i + 1, rfl, hi', rfl, fun j hj => ?_⟩, by simp only; omega⟩
      by_cases e : j = i
      · subst e
        exact ⟨r, hr, by simpa using h1⟩
      · exact hno j (by omega)
  · obtain rfl : i = s.length := by omega
    exact .inr ⟨hF, hs, hno⟩
end L
end Go.Proofs.YtpgggmcpflgniaaDoor
