/- Chapter 38: the plain laws. -/
import Derived.Test.YtbhfmiaboidhnaaModel
import Derived.Test.YtbhfmiaboidhnaaWq
import Derived.Test.YtbhfmiaboidhnaaLaw
namespace Go.Proofs.Ytbhfmiaboidhnaa
open Go Go.RowKit
set_option maxRecDepth 100000
set_option linter.unusedSimpArgs false
namespace L
abbrev A3 : Type := Int × Int × Int

theorem awake38 : M.law38_awake big = some true := by kernel_rfl

/-! ## Arrears and overpayments -/
def arrF (b : P4) : Int := if wrap64 (b.2.1 - b.2.2.1) < 0 then 0 else wrap64 (b.2.1 - b.2.2.1)
def ovF (b : P4) : Int := if wrap64 (wrap64 (b.2.2.1 - b.2.1) - b.2.2.2) < 0 then 0 else wrap64 (wrap64 (b.2.2.1 - b.2.1) - b.2.2.2)
theorem arr_eq (b : P4) : M.balance_Arrears big b = some (arrF b) := by unfold M.balance_Arrears arrF; simp only [IntWalk.i64_left]
theorem rarr_eq (b : P4) : M.ref38_Arrears big b = some (arrF b) := arr_eq b
theorem ov_eq (b : P4) : M.balance_Overpayment big b = some (ovF b) := by unfold M.balance_Overpayment ovF; simp only [IntWalk.i64_left]
theorem rov_eq (b : P4) : M.ref38_Overpayment big b = some (ovF b) := ov_eq b
def InW (a : Int) (b : P4) : Prop := -a ≤ b.2.1 ∧ b.2.1 ≤ a ∧ -a ≤ b.2.2.1 ∧ b.2.2.1 ≤ a ∧ -a ≤ b.2.2.2 ∧ b.2.2.2 ≤ a
instance (a : Int) (b : P4) : Decidable (InW a b) := by unfold InW; infer_instance
theorem within_eq (b : P4) (a : Int) (h0 : 0 ≤ a) (h1 : a ≤ 1152921504606846976) : M.ref38_Within big b a = some (decide (InW a b)) := by
  have hw : IntKind.i64.wrap (0 - a) = -a := by rw [wrap_id] <;> omega
  apply Wp.eq
  unfold M.ref38_Within InW
  simp only [hw, a_, b_, c_, d_, e_, f_, g_, h_, i_, j_, k_, l_, m_, n_, o_, p_, q_, r_, s_, t_, u_, v_, w_, x_, y_, z_, A_, B_, C_, D_, E_, F_, G_, H_, I_, J_, K_, L_, M_, N_, O_, P_, reduceCtorEq]
  refine ⟨fun g1 => ⟨fun g2 => ⟨fun g3 => ⟨fun g4 => ⟨fun g5 => ?_, fun g => ?_⟩, fun g => ?_⟩, fun g => ?_⟩, fun g => ?_⟩, fun g => ?_⟩
  · simp [g1, g2, g3, g4, g5]
  all_goals
    refine (decide_eq_false fun hh => ?_).symm
    dsimp only [rInt, Row.den] at *
    omega

theorem BalanceAmounts_true (b : P4) (_ : WF rPosting b) : M.law38_BalanceAmounts big b = some true := by
  apply Wp.eq
  unfold M.law38_BalanceAmounts
  rw [within_eq b _ (by omega) (by omega)]
  simp only [awake38, arr_eq, rarr_eq, ov_eq, rov_eq, a_, b_, c_, d_, e_, f_, g_, h_, i_, j_, k_, l_, m_, n_, o_, p_, q_, r_, s_, t_, u_, v_, w_, x_, y_, z_, A_, B_, C_, D_, E_, F_, G_, H_, I_, J_, K_, L_, M_, N_, O_, P_, reduceCtorEq, not_true_eq_false, not_false_eq_true]

theorem BalanceIdentity_true (b : P4) (_ : WF rPosting b) : M.law38_BalanceIdentity big b = some true := by
  obtain ⟨m, d, r, v⟩ := b
  apply Wp.eq
  unfold M.law38_BalanceIdentity
  rw [within_eq _ _ (by omega) (by omega)]
  by_cases hin : InW 1152921504606846976 (m, d, r, v) ∧ 0 ≤ v
  · obtain ⟨hi, hv⟩ := hin
    have e1 : decide (InW 1152921504606846976 (m, d, r, v)) = true := decide_eq_true hi
    have e2 : decide (v < 0) = false := decide_eq_false (by omega)
    unfold InW at hi
    simp only at hi
    have a1 : arrF (m, d, r, v) = if d - r < 0 then 0 else d - r := by unfold arrF; simp only; unfold wrap64; split <;> split <;> omega
    have a2 : arrF (m, d, r, 0) = if d - r < 0 then 0 else d - r := a1
    have a3 : ovF (m, d, r, v) = if r - d - v < 0 then 0 else r - d - v := by unfold ovF; simp only; unfold wrap64; split <;> split <;> omega
    have a4 : ovF (m, d, r, 0) = if r - d < 0 then 0 else r - d := by unfold ovF; simp only; unfold wrap64; split <;> split <;> omega
    simp only [e1, e2, arr_eq, ov_eq, a1, a2, a3, a4, awake38, IntKind.wrap_i64, wrap64, a_, b_, c_, d_, e_, f_, g_, h_, i_, j_, k_, l_, m_, n_, o_, p_, q_, r_, s_, t_, u_, v_, w_, x_, y_, z_, A_, B_, C_, D_, E_, F_, G_, H_, I_, J_, K_, L_, M_, N_, O_, P_, reduceCtorEq]
    repeat' split
    all_goals
      refine ?_
      first
        | omega
        | (simp; omega)
  · have : Wp (some (decide (InW 1152921504606846976 (m, d, r, v)))) (fun x => Wp (if (!x) = true then some true else some (decide (v < 0))) (· = true)) := by
      simp only [a_, b_, c_, d_, e_, f_, g_, h_, i_, j_, k_, l_, m_, n_, o_, p_, q_, r_, s_, t_, u_, v_, w_, x_, y_, z_, A_, B_, C_, D_, E_, F_, G_, H_, I_, J_, K_, L_, M_, N_, O_, P_, reduceCtorEq]
      intro h
      have : ¬ 0 ≤ v := fun g => hin ⟨h, g⟩
      omega
    refine Wp.seq (fun j => j = true) ?_ fun j hj => ?_
    · exact Wp.bind this
    · subst hj
      simp only [awake38, a_, b_, c_, d_, e_, f_, g_, h_, i_, j_, k_, l_, m_, n_, o_, p_, q_, r_, s_, t_, u_, v_, w_, x_, y_, z_, A_, B_, C_, D_, E_, F_, G_, H_, I_, J_, K_, L_, M_, N_, O_, P_, reduceCtorEq]

theorem wrap64_succ {k : Nat} (h : k < 9223372036854775807) : wrap64 ((k : Int) + 1) = ((k + 1 : Nat) : Int) := by
  rw [← IntWalk.i64_left]
  exact wrap_succ h

/-! ## Totals -/
def totF (c : Int × Int) (b : P4) : Int × Int := (wrap64 (c.1 + arrF b), wrap64 (c.2 + ovF b))
theorem tot_eq (l : List P4) (hl : l.length ≤ 1048576) : M.balance_Totals big l = some (l.foldl totF (0, 0)) := by
  apply Wp.eq
  unfold M.balance_Totals
  refine Wp.fold (fun s => s.2.2) (fun s => (s.1, s.2.1)) l totF (0, 0) (fun _ _ => True) (by omega) rfl rfl trivial (fun k s hk hs _ => ?_) fun s hs hc _ => ?_
  · obtain ⟨a, b, c⟩ := s
    obtain rfl : c = _ := hs
    simp only [lt_dec' hk, idx_nat hk, arr_eq, ov_eq, IntWalk.i64_left, a_, b_, c_, d_, e_, f_, g_, h_, i_, j_, k_, l_, m_, n_, o_, p_, q_, r_, s_, t_, u_, v_, w_, x_, y_, z_, A_, B_, C_, D_, E_, F_, G_, H_, I_, J_, K_, L_, M_, N_, O_, P_, reduceCtorEq, Option.bind_some, foldQ_inl, totF, and_true]
    exact wrap64_succ (by omega)
  · obtain ⟨a, b, c⟩ := s
    obtain rfl : c = _ := hs
    simp only [nlt_self, a_, b_, c_, d_, e_, f_, g_, h_, i_, j_, k_, l_, m_, n_, o_, p_, q_, r_, s_, t_, u_, v_, w_, x_, y_, z_, A_, B_, C_, D_, E_, F_, G_, H_, I_, J_, K_, L_, M_, N_, O_, P_, reduceCtorEq, stopQ_inr]
    exact hc
theorem rtot_eq (l : List P4) (hl : l.length ≤ 1048576) : M.ref38_Totals big l = some (l.foldl totF (0, 0)) := by
  apply Wp.eq
  unfold M.ref38_Totals
  refine Wp.fold (fun s => s.2.2) (fun s => (s.1, s.2.1)) l totF (0, 0) (fun _ _ => True) (by omega) rfl rfl trivial (fun k s hk hs _ => ?_) fun s hs hc _ => ?_
  · obtain ⟨a, b, c⟩ := s
    obtain rfl : c = _ := hs
    simp only [lt_dec' hk, idx_nat hk, rarr_eq, rov_eq, IntWalk.i64_left, a_, b_, c_, d_, e_, f_, g_, h_, i_, j_, k_, l_, m_, n_, o_, p_, q_, r_, s_, t_, u_, v_, w_, x_, y_, z_, A_, B_, C_, D_, E_, F_, G_, H_, I_, J_, K_, L_, M_, N_, O_, P_, reduceCtorEq, Option.bind_some, foldQ_inl, totF, and_true]
    exact wrap64_succ (by omega)
  · obtain ⟨a, b, c⟩ := s
    obtain rfl : c = _ := hs
    simp only [nlt_self, a_, b_, c_, d_, e_, f_, g_, h_, i_, j_, k_, l_, m_, n_, o_, p_, q_, r_, s_, t_, u_, v_, w_, x_, y_, z_, A_, B_, C_, D_, E_, F_, G_, H_, I_, J_, K_, L_, M_, N_, O_, P_, reduceCtorEq, stopQ_inr]
    exact hc

theorem BalanceTotals_true (l : List P4) (_ : WF (.slice rPosting) l) : M.law38_BalanceTotals big l = some true := by
  apply Wp.eq
  unfold M.law38_BalanceTotals
  rw [awake38]
  refine Wp.dec (fun _ => by simp only [a_, b_, c_, d_, e_, f_, g_, h_, i_, j_, k_, l_, m_, n_, o_, p_, q_, r_, s_, t_, u_, v_, w_, x_, y_, z_, A_, B_, C_, D_, E_, F_, G_, H_, I_, J_, K_, L_, M_, N_, O_, P_, reduceCtorEq, Option.bind_some]) fun hl => ?_
  have hl : l.length ≤ 256 := by omega
  refine Wp.join (Wp.count (fun s => s) l.length (fun _ _ => True) (by omega) rfl trivial fun k s hk hs _ => ?_)
  obtain rfl : s = _ := hs
  rcases Nat.lt_or_ge k l.length with hlt | hge
  · simp only [lt_dec' hlt, idx_nat hlt, within_eq _ 4503599627370496 (by omega) (by omega), a_, b_, c_, d_, e_, f_, g_, h_, i_, j_, k_, l_, m_, n_, o_, p_, q_, r_, s_, t_, u_, v_, w_, x_, y_, z_, A_, B_, C_, D_, E_, F_, G_, H_, I_, J_, K_, L_, M_, N_, O_, P_, reduceCtorEq, Option.bind_some, countQ_inl, countQ_inr]
    exact fun _ => ⟨hlt, wrap_succ (by omega)⟩
  · obtain rfl : k = l.length := by omega
    simp only [nlt_self, tot_eq l (by omega), rtot_eq l (by omega), a_, b_, c_, d_, e_, f_, g_, h_, i_, j_, k_, l_, m_, n_, o_, p_, q_, r_, s_, t_, u_, v_, w_, x_, y_, z_, A_, B_, C_, D_, E_, F_, G_, H_, I_, J_, K_, L_, M_, N_, O_, P_, reduceCtorEq, Option.bind_some, countQ_inr]

/-! ## Received and waived: sums -/
def fR (m : Int) (p : P4) : Int := if p.2.1 = m then (if p.2.2.1 = 1 then p.2.2.2 else if p.2.2.1 = 2 ∨ p.2.2.1 = 3 then -p.2.2.2 else 0) else 0
def fV (m : Int) (p : P4) : Int := if p.2.1 = m then (if p.2.2.1 = 4 then p.2.2.2 else 0) else 0
def sR (m : Int) (ps : List P4) : Int := wrap64 (ps.map (fR m)).sum
def sV (m : Int) (ps : List P4) : Int := wrap64 (ps.map (fV m)).sum

theorem w_l (a b : Int) : wrap64 (wrap64 a + b) = wrap64 (a + b) := by unfold wrap64; omega
theorem w_r (a b : Int) : wrap64 (a + wrap64 b) = wrap64 (a + b) := by unfold wrap64; omega
theorem w_0 : wrap64 0 = 0 := by unfold wrap64; omega
theorem w_w (a : Int) : wrap64 (wrap64 a) = wrap64 a := by unfold wrap64; omega
theorem amt_R {m : Int} {p : P4} (h : p.2.1 = m) (a : Int) : wrap64 (a + amt p) = wrap64 (a + fR m p) := by
  unfold amt fR
  rw [if_pos h]
  split
  · rfl
  · split
    · exact w_r _ _
    · rfl
theorem foldR (m : Int) : ∀ (l : List P4) (acc : Int), wrap64 acc = acc → l.foldl (addR m) acc = wrap64 (acc + (l.map (fR m)).sum)
  | [], acc, h => by simpa using h.symm
  | p :: l, acc, h => by
    rw [List.foldl_cons]
    have e : addR m acc p = wrap64 (acc + fR m p) := by
      unfold addR
      split
      · rename_i hp
        exact amt_R hp acc
      · rename_i hp
        unfold fR
        rw [if_neg hp, Int.add_zero]
        exact h.symm
    rw [e, foldR m l _ (w_w _), List.map_cons, List.sum_cons, w_l, Int.add_assoc]
theorem foldV (m : Int) : ∀ (l : List P4) (acc : Int), wrap64 acc = acc → (ofK 4 l).foldl (addW m) acc = wrap64 (acc + (l.map (fV m)).sum)
  | [], acc, h => by simpa [ofK] using h.symm
  | p :: l, acc, h => by
    have e : (ofK 4 (p :: l)).foldl (addW m) acc = (ofK 4 l).foldl (addW m) (wrap64 (acc + fV m p)) := by
      unfold ofK
      by_cases hk : p.2.2.1 = 4
      · rw [List.filter_cons_of_pos (by simpa using hk), List.foldl_cons]
        congr 1
        unfold addW fV
        by_cases hm : p.2.1 = m
        · rw [if_pos hm, if_pos hm, if_pos hk]
        · rw [if_neg hm, if_neg hm, Int.add_zero]; exact h.symm
      · rw [List.filter_cons_of_neg (by simpa using hk)]
        congr 1
        unfold fV
        rw [if_neg hk, ite_self, Int.add_zero]; exact h.symm
    rw [e, foldV m l _ (w_w _), List.map_cons, List.sum_cons, w_l, Int.add_assoc]
theorem kinds_sum (m : Int) : ∀ ps : List P4, ((ofK 1 ps).map (fR m)).sum + ((ofK 2 ps).map (fR m)).sum + ((ofK 3 ps).map (fR m)).sum = (ps.map (fR m)).sum
  | [] => rfl
  | p :: ps => by
    have ih := kinds_sum m ps
    have key : ∀ k : Int, ((ofK k (p :: ps)).map (fR m)).sum = (if p.2.2.1 = k then fR m p else 0) + ((ofK k ps).map (fR m)).sum := by
      intro k
      unfold ofK
      by_cases h : p.2.2.1 = k
      · rw [List.filter_cons_of_pos (by simpa using h), List.map_cons, List.sum_cons, if_pos h]
      · rw [List.filter_cons_of_neg (by simpa using h), if_neg h, Int.zero_add]
    rw [key, key, key, List.map_cons, List.sum_cons, ← ih]
    have : (if p.2.2.1 = 1 then fR m p else 0) + (if p.2.2.1 = 2 then fR m p else 0) + (if p.2.2.1 = 3 then fR m p else 0) = fR m p := by
      by_cases h1 : p.2.2.1 = 1
      · simp [h1]
      · by_cases h2 : p.2.2.1 = 2
        · simp [h2]
        · by_cases h3 : p.2.2.1 = 3
          · simp [h3]
          · simp [h1, h2, h3, fR]
    omega
theorem rec_eq (m : Int) (ps : List P4) : recN m ps 3 = sR m ps := by
  have e : recN m ps 3 = (ofK 3 ps).foldl (addR m) ((ofK 2 ps).foldl (addR m) ((ofK 1 ps).foldl (addR m) 0)) := rfl
  rw [e, foldR m _ 0 w_0, foldR m _ _ (w_w _), foldR m _ _ (w_w _), w_l, Int.add_assoc, w_l]
  unfold sR
  rw [show (ps.map (fR m)).sum = _ from (kinds_sum m ps).symm]
  congr 1
  omega
theorem wav_eq (m : Int) (ps : List P4) : wavW m (ofK 4 ps) = sV m ps := by
  unfold wavW
  rw [foldV m _ 0 w_0, Int.zero_add]
  rfl
theorem off_month (m : Int) (f : P4 → Int) (hf : ∀ p : P4, p.2.1 ≠ m → f p = 0) : ∀ ps : List P4, ((ps.filter fun p => decide (p.2.1 = m)).map f).sum = (ps.map f).sum
  | [] => rfl
  | p :: ps => by
    have ih := off_month m f hf ps
    by_cases h : p.2.1 = m
    · rw [List.filter_cons_of_pos (by simpa using h), List.map_cons, List.sum_cons, List.map_cons, List.sum_cons, ih]
    · rw [List.filter_cons_of_neg (by simpa using h), List.map_cons, List.sum_cons, hf p h, Int.zero_add, ih]
theorem sR_month (m : Int) (ps : List P4) : sR m (ps.filter fun p => decide (p.2.1 = m)) = sR m ps := by
  unfold sR
  rw [off_month m (fR m) fun p h => by unfold fR; rw [if_neg h]]
theorem sV_month (m : Int) (ps : List P4) : sV m (ps.filter fun p => decide (p.2.1 = m)) = sV m ps := by
  unfold sV
  rw [off_month m (fV m) fun p h => by unfold fV; rw [if_neg h]]

theorem signed_eq (p : P4) : M.ref37_signed big p = some (amt p) := by
  apply Wp.eq
  unfold M.ref37_signed amt
  simp only [IntWalk.i64_left, Int.zero_sub, a_, b_, c_, d_, e_, f_, g_, h_, i_, j_, k_, l_, m_, n_, o_, p_, q_, r_, s_, t_, u_, v_, w_, x_, y_, z_, A_, B_, C_, D_, E_, F_, G_, H_, I_, J_, K_, L_, M_, N_, O_, P_, reduceCtorEq]
  refine ⟨fun h => ?_, fun h1 => ⟨fun h2 => ⟨fun _ => ?_, fun h => ?_⟩, fun h2 => ⟨fun h3 => ?_, fun h3 => ?_⟩⟩⟩
  all_goals dsimp only [rInt, Row.den] at *
  · rw [if_pos h]
  · rw [if_neg h1, if_pos (.inl h2)]
  · omega
  · rw [if_neg h1, if_pos (.inr h3)]
  · rw [if_neg h1, if_neg (by omega)]
theorem rrec_eq (ps : List P4) (m : Int) (hl : ps.length ≤ 1048576) : M.ref37_Received big ps m = some (sR m ps) := by
  apply Wp.eq
  unfold M.ref37_Received
  refine Wp.fold (fun s => s.2) (fun s => s.1) ps (addR m) 0 (fun _ _ => True) (by omega) rfl rfl trivial (fun k s hk hs _ => ?_) fun s hs hc _ => ?_
  · obtain ⟨a, c⟩ := s
    obtain rfl : c = _ := hs
    simp only [lt_dec' hk, idx_nat hk, signed_eq, IntWalk.i64_left, a_, b_, c_, d_, e_, f_, g_, h_, i_, j_, k_, l_, m_, n_, o_, p_, q_, r_, s_, t_, u_, v_, w_, x_, y_, z_, A_, B_, C_, D_, E_, F_, G_, H_, I_, J_, K_, L_, M_, N_, O_, P_, reduceCtorEq, Option.bind_some, foldQ_inl, addR, and_true]
    refine ⟨fun h => ⟨wrap64_succ (by omega), (if_pos h).symm⟩, fun h => ⟨wrap64_succ (by omega), (if_neg h).symm⟩⟩
  · obtain ⟨a, c⟩ := s
    obtain rfl : c = _ := hs
    simp only [nlt_self, a_, b_, c_, d_, e_, f_, g_, h_, i_, j_, k_, l_, m_, n_, o_, p_, q_, r_, s_, t_, u_, v_, w_, x_, y_, z_, A_, B_, C_, D_, E_, F_, G_, H_, I_, J_, K_, L_, M_, N_, O_, P_, reduceCtorEq, stopQ_inr]
    have hc : a = ps.foldl (addR m) 0 := hc
    rw [hc, foldR m _ 0 w_0, Int.zero_add]
    rfl
theorem rwav_eq (ps : List P4) (m : Int) (hl : ps.length ≤ 1048576) : M.ref37_Waived big ps m = some (sV m ps) := by
  apply Wp.eq
  unfold M.ref37_Waived
  refine Wp.fold (fun s => s.2) (fun s => s.1) ps (fun a p => wrap64 (a + fV m p)) 0 (fun _ c => wrap64 c = c) (by omega) rfl rfl w_0 (fun k s hk hs hw => ?_) fun s hs hc _ => ?_
  · obtain ⟨a, c⟩ := s
    obtain rfl : c = _ := hs
    have hw : wrap64 a = a := hw
    simp only [lt_dec' hk, idx_nat hk, IntWalk.i64_left, a_, b_, c_, d_, e_, f_, g_, h_, i_, j_, k_, l_, m_, n_, o_, p_, q_, r_, s_, t_, u_, v_, w_, x_, y_, z_, A_, B_, C_, D_, E_, F_, G_, H_, I_, J_, K_, L_, M_, N_, O_, P_, reduceCtorEq, Option.bind_some, foldQ_inl, fV, w_w, and_true]
    refine ⟨fun h => ⟨fun h2 => ⟨wrap64_succ (by omega), by rw [if_pos h, if_pos h2]⟩, fun h2 => ⟨wrap64_succ (by omega), by rw [if_pos h, if_neg h2, Int.add_zero, hw]⟩⟩, fun h => ⟨wrap64_succ (by omega), by rw [if_neg h, Int.add_zero, hw]⟩⟩
  · obtain ⟨a, c⟩ := s
    obtain rfl : c = _ := hs
    simp only [nlt_self, a_, b_, c_, d_, e_, f_, g_, h_, i_, j_, k_, l_, m_, n_, o_, p_, q_, r_, s_, t_, u_, v_, w_, x_, y_, z_, A_, B_, C_, D_, E_, F_, G_, H_, I_, J_, K_, L_, M_, N_, O_, P_, reduceCtorEq, stopQ_inr]
    have hc : a = ps.foldl (fun a p => wrap64 (a + fV m p)) 0 := hc
    have key : ∀ (l : List P4) (acc : Int), wrap64 acc = acc → l.foldl (fun a p => wrap64 (a + fV m p)) acc = wrap64 (acc + (l.map (fV m)).sum) := by
      intro l
      induction l with
      | nil => intro acc h; simpa using h.symm
      | cons p l ih =>
        intro acc _
        rw [List.foldl_cons, ih _ (w_w _), List.map_cons, List.sum_cons, w_l, Int.add_assoc]
    rw [hc, key _ 0 w_0, Int.zero_add]
    rfl

/-! ## Balances -/
def mb (ps : List P4) (a : A3) : P4 := (a.1, (if a.2.2 = 0 then a.2.1 else sR a.1 ps), sR a.1 ps, sV a.1 ps)
theorem lookA_put {α : Type} (l : List (Int × α)) (k x : Int) (v : α) : lookA rInt (putA rInt l k v) x = if k = x then some v else lookA rInt l x := by
  induction l with
  | nil => simp [putA, lookA, keyEq]
  | cons p l ih =>
    obtain ⟨a, b⟩ := p
    unfold putA
    by_cases h : a = k
    · have : keyEq rInt a k = true := by simp [keyEq, h]
      rw [if_pos this]
      by_cases h' : a = x <;> simp [lookA, keyEq, h', ← h]
    · have : ¬ keyEq rInt a k = true := by simp [keyEq, h]
      rw [if_neg this]
      show (if keyEq rInt a x = true then some b else lookA rInt (putA rInt l k v) x) = if k = x then some v else if keyEq rInt a x = true then some b else lookA rInt l x
      rw [ih]
      by_cases h' : a = x
      · have : ¬ k = x := fun e => h (by rw [h', e])
        simp [keyEq, h', this]
      · simp [keyEq, h']
theorem modA_none {α : Type} : ∀ (l : List (Int × α)) (k : Int) (v : α), lookA rInt l k = none → modA rInt l k v = l
  | [], _, _, _ => rfl
  | p :: l, k, v, h => by
    have h' : (if keyEq rInt p.1 k = true then some p.2 else lookA rInt l k) = none := h
    show (if keyEq rInt p.1 k = true then (p.1, v) :: l else p :: modA rInt l k v) = p :: l
    split at h'
    · cases h'
    · rename_i hk
      rw [if_neg hk, modA_none l k v h']

def wantQ (aw : List A3) (ps : List P4) (W : List (Int × List P4)) : Prop := ∀ x, ((∃ a ∈ aw, a.1 = x) → lookA rInt W x = some (ps.filter fun p => decide (p.2.1 = x))) ∧ ((¬ ∃ a ∈ aw, a.1 = x) → lookA rInt W x = none)
theorem ex_succ {aw : List A3} {k : Nat} (h : k < aw.length) (x : Int) : (∃ a ∈ aw.take (k + 1), a.1 = x) ↔ (∃ a ∈ aw.take k, a.1 = x) ∨ aw[k].1 = x := by
  rw [← List.take_append_getElem h]
  simp only [List.mem_append, List.mem_singleton]
  constructor
  · rintro ⟨a, ha | rfl, e⟩
    · exact .inl ⟨a, ha, e⟩
    · exact .inr e
  · rintro (⟨a, ha, e⟩ | e)
    · exact ⟨a, .inl ha, e⟩
    · exact ⟨_, .inr rfl, e⟩

theorem of_eq (aw : List A3) (ps : List P4) (ha : aw.length ≤ 1048576) (hp : ps.length ≤ 1048576) : M.balance_Of big aw ps = some (aw.map (mb ps)) := by
  apply Wp.eq
  unfold M.balance_Of
  refine Wp.seq (fun W => wantQ aw [] W) ?_ fun W hW => Wp.seq (fun W => wantQ aw ps W) ?_ fun W2 hW2 => ?_
  · refine Wp.count (fun s => s.1) aw.length (fun k s => wantQ (aw.take k) [] s.2) (by omega) rfl (fun x => ⟨fun h => (by simp at h), fun _ => rfl⟩) fun k s hk hs hJ => ?_
    obtain ⟨c, W⟩ := s
    obtain rfl : c = _ := hs
    rcases Nat.lt_or_ge k aw.length with hlt | hge
    · refine Wp.dec (fun _ => ?_) fun h => absurd (show (k : Int) < (aw.length : Int) by omega) h
      rw [idx_nat hlt, Option.bind_some]
      refine .some ⟨hlt, wrap_succ (by omega), fun x => ?_⟩
      have hJx := hJ x
      have e : lookA rInt (putA rInt W aw[k].1 ([] : List P4)) x = if aw[k].1 = x then some [] else lookA rInt W x := lookA_put W aw[k].1 x []
      refine ⟨fun h => ?_, fun h => ?_⟩
      · refine e.trans ?_
        by_cases hx : aw[k].1 = x
        · rw [if_pos hx]; rfl
        · rw [if_neg hx]
          exact hJx.1 (((ex_succ hlt x).1 h).resolve_right hx)
      · refine e.trans ?_
        rw [if_neg fun hx => h ((ex_succ hlt x).2 (.inr hx))]
        exact hJx.2 fun hh => h ((ex_succ hlt x).2 (.inl hh))
    · obtain rfl : k = aw.length := by omega
      rw [List.take_length] at hJ
      refine Wp.dec (fun h => absurd (show (aw.length : Int) < aw.length from h) (by omega)) fun _ => .some hJ
  · refine Wp.count (fun s => s.1) ps.length (fun k s => wantQ aw (ps.take k) s.2) (by omega) rfl hW fun k s hk hs hJ => ?_
    obtain ⟨c, W⟩ := s
    obtain rfl : c = _ := hs
    rcases Nat.lt_or_ge k ps.length with hlt | hge
    · have hJk := hJ ps[k].2.1
      have htake : ∀ x, (ps.take (k + 1)).filter (fun p => decide (p.2.1 = x)) = (ps.take k).filter (fun p => decide (p.2.1 = x)) ++ (if ps[k].2.1 = x then [ps[k]] else []) := by
        intro x
        rw [← List.take_append_getElem hlt, List.filter_append]
        by_cases hx : ps[k].2.1 = x
        · rw [if_pos hx, List.filter_cons_of_pos (by simpa using hx)]; rfl
        · rw [if_neg hx, List.filter_cons_of_neg (by simpa using hx)]; rfl
      refine Wp.dec (fun _ => ?_) fun h => absurd (show (k : Int) < (ps.length : Int) by omega) h
      refine Wp.seq (fun z => wantQ aw (ps.take (k + 1)) z) ?_ fun z hz => .some ⟨hlt, wrap_succ (by omega), hz⟩
      rw [idx_nat hlt, Option.bind_some]
      by_cases hex : ∃ a ∈ aw, a.1 = ps[k].2.1
      · have hl : lookA rInt W ps[k].2.1 = some ((ps.take k).filter fun p => decide (p.2.1 = ps[k].2.1)) := hJk.1 hex
        show Wp (if (lookA rInt W ps[k].2.1).isSome = true then (appA ((lookA rInt W ps[k].2.1).getD ([] : List P4)) [ps[k]]).bind _ else _) _
        rw [hl]
        refine Wp.ite (fun _ => ?_) fun h => absurd rfl h
        rw [Option.getD_some]
        refine Wp.bind (Wp.app ?_ (Wp.dec (fun _ => .some fun x => ?_) fun h => absurd rfl h))
        · have := List.length_filter_le (fun p : P4 => decide (p.2.1 = ps[k].2.1)) (ps.take k)
          have := List.length_take_le k ps
          simp only [List.length_singleton]
          omega
        · have e : ∀ v : List P4, lookA rInt (putA rInt W ps[k].2.1 v) x = if ps[k].2.1 = x then some v else lookA rInt W x := fun v => lookA_put W ps[k].2.1 x v
          rw [htake]
          refine ⟨fun h => (e _).trans ?_, fun h => (e _).trans ?_⟩
          · by_cases hx : ps[k].2.1 = x
            · subst hx
              rw [if_pos rfl, if_pos rfl]
            · rw [if_neg hx, if_neg hx, List.append_nil]
              exact (hJ x).1 h
          · rw [if_neg fun hx : ps[k].2.1 = x => h (by rw [← hx]; exact hex)]
            exact (hJ x).2 h
      · have hl : lookA rInt W ps[k].2.1 = none := hJk.2 hex
        refine Wp.ite (fun h => ?_) fun _ => .some fun x => ?_
        · have h : (lookA rInt W ps[k].2.1).isSome = true := h
          rw [hl] at h
          cases h
        · have e : ∀ v : List P4, modA rInt W ps[k].2.1 v = W := fun v => modA_none _ _ _ hl
          rw [htake]
          refine ⟨fun h => ?_, fun h => ?_⟩
          · rw [if_neg fun hx : ps[k].2.1 = x => hex (by rw [hx]; exact h), List.append_nil]
            exact (congrArg (fun W => lookA rInt W x) (e _)).trans ((hJ x).1 h)
          · exact (congrArg (fun W => lookA rInt W x) (e _)).trans ((hJ x).2 h)
    · obtain rfl : k = ps.length := by omega
      rw [List.take_length] at hJ
      refine Wp.dec (fun h => absurd (show (ps.length : Int) < ps.length from h) (by omega)) fun _ => .some hJ
  · refine Wp.count (fun s => s.2.1) aw.length (fun k s => s.1 = W2 ∧ (∀ x b, lookA rInt s.2.2.1 x = some b → b = (x, 0, sR x ps, sV x ps)) ∧ s.2.2.2 = (aw.take k).map (mb ps)) (by omega) rfl ⟨rfl, (fun x b h => by cases h), rfl⟩ fun k s hk hs hJ => ?_
    obtain ⟨W, c, Kn, out⟩ := s
    obtain rfl : c = _ := hs
    obtain ⟨e1, hK, e2⟩ := hJ
    obtain rfl : W = W2 := e1
    obtain rfl : out = _ := e2
    rcases Nat.lt_or_ge k aw.length with hlt | hge
    · have hgrp : (lookA rInt W aw[k].1).getD [] = ps.filter fun p => decide (p.2.1 = aw[k].1) := by
        rw [(hW2 aw[k].1).1 ⟨aw[k], List.getElem_mem _, rfl⟩]
        rfl
      have hrec : ∀ (l : List P4) m, M.ledger_Received big l m = some (recN m l 3) := fun l m => rfl
      have hwav : ∀ (l : List P4) m, M.ledger_Waived big l m = some (wavW m (ofK 4 l)) := fun l m => rfl
      have hsnoc : (aw.take (k + 1)).map (mb ps) = (aw.take k).map (mb ps) ++ [mb ps aw[k]] := by
        rw [← List.take_append_getElem hlt, List.map_append]; rfl
      refine Wp.dec (fun _ => ?_) fun h => absurd (show (k : Int) < (aw.length : Int) by omega) h
      rw [idx_nat hlt, Option.bind_some]
      refine Wp.seq (fun j => j.2 = (aw[k].1, 0, sR aw[k].1 ps, sV aw[k].1 ps) ∧ ∀ x b, lookA rInt j.1 x = some b → b = (x, 0, sR x ps, sV x ps)) ?_ fun j hj => ?_
      · have hK : ∀ x b, lookA rInt Kn x = some b → b = (x, 0, sR x ps, sV x ps) := hK
        show Wp (if (!(lookA rInt Kn aw[k].1).isSome) = true then (M.ledger_Received big ((lookA rInt W aw[k].1).getD ([] : List P4)) aw[k].1).bind fun y12 => (M.ledger_Waived big ((lookA rInt W aw[k].1).getD ([] : List P4)) aw[k].1).bind fun y13 =>
          some (putA rInt Kn aw[k].1 ((aw[k].1, ((0 : Int), (y12, y13))) : P4), ((aw[k].1, ((0 : Int), (y12, y13))) : P4)) else some (Kn, (lookA rInt Kn aw[k].1).getD ((0 : Int), ((0 : Int), ((0 : Int), (0 : Int)))))) _
        rw [hgrp]
        cases hl : lookA rInt Kn aw[k].1 with
        | none =>
          refine Wp.ite (fun _ => ?_) fun h => absurd rfl h
          rw [hrec, Option.bind_some, hwav, Option.bind_some, rec_eq, wav_eq, sR_month, sV_month]
          refine .some ⟨rfl, fun x b hx => ?_⟩
          have hx2 : lookA rInt (putA rInt Kn aw[k].1 ((aw[k].1, (0 : Int), sR aw[k].1 ps, sV aw[k].1 ps) : P4)) x = some b := hx
          rw [lookA_put] at hx2
          split at hx2
          · rename_i e
            subst e
            exact (Option.some.inj hx2).symm
          · exact hK x b hx2
        | some b =>
          refine Wp.ite (fun h => by cases h) fun _ => .some ⟨hK _ _ hl, hK⟩
      · obtain ⟨Kn', b⟩ := j
        obtain ⟨e, hK'⟩ := hj
        obtain rfl : b = _ := e
        refine Wp.seq (fun z => z = mb ps aw[k]) ?_ fun z hz => ?_
        · unfold mb
          refine Wp.ndec (fun h => .some ?_) fun h => .some ?_
          · rw [if_neg h]
          · rw [if_pos h]
        · subst hz
          refine Wp.bind (Wp.app ?_ (.some ?_))
          · have := List.length_take_le k aw
            show ((aw.take k).map (mb ps)).length + 1 ≤ _
            rw [List.length_map]
            omega
          · exact ⟨hlt, wrap_succ (by omega), rfl, hK', hsnoc.symm⟩
    · obtain rfl : k = aw.length := by omega
      refine Wp.dec (fun h => absurd (show (aw.length : Int) < aw.length from h) (by omega)) fun _ => .some ?_
      show (aw.take aw.length).map (mb ps) = _
      rw [List.take_length]
theorem rof_eq (aw : List A3) (ps : List P4) (ha : aw.length ≤ 1048576) (hp : ps.length ≤ 1048576) : M.ref38_Of big aw ps = some (aw.map (mb ps)) := by
  apply Wp.eq
  unfold M.ref38_Of
  refine Wp.count (fun s => s.1) aw.length (fun k s => s.2 = (aw.take k).map (mb ps)) (by omega) rfl rfl fun k s hk hs hJ => ?_
  obtain ⟨c, out⟩ := s
  obtain rfl : c = _ := hs
  obtain rfl : out = _ := hJ
  rcases Nat.lt_or_ge k aw.length with hlt | hge
  · have hsnoc : (aw.take (k + 1)).map (mb ps) = (aw.take k).map (mb ps) ++ [mb ps aw[k]] := by
      rw [← List.take_append_getElem hlt, List.map_append]; rfl
    have hlen := List.length_take_le k aw
    simp only [lt_dec' hlt, idx_nat hlt, rrec_eq ps _ hp, rwav_eq ps _ hp, IntWalk.i64_left, a_, b_, c_, d_, e_, f_, g_, h_, i_, j_, k_, l_, m_, n_, o_, p_, q_, r_, s_, t_, u_, v_, w_, x_, y_, z_, A_, B_, C_, D_, E_, F_, G_, H_, I_, J_, K_, L_, M_, N_, O_, P_, reduceCtorEq, Option.bind_some, wp_app, countQ_inl, List.length_map, List.length_singleton, hsnoc, mb]
    refine ⟨fun h => ⟨by omega, hlt, wrap64_succ (by omega), ?_⟩, fun h => ⟨by omega, hlt, wrap64_succ (by omega), ?_⟩⟩
    · rw [if_neg h]
    · rw [if_pos h]
  · obtain rfl : k = aw.length := by omega
    simp only [nlt_self, a_, b_, c_, d_, e_, f_, g_, h_, i_, j_, k_, l_, m_, n_, o_, p_, q_, r_, s_, t_, u_, v_, w_, x_, y_, z_, A_, B_, C_, D_, E_, F_, G_, H_, I_, J_, K_, L_, M_, N_, O_, P_, reduceCtorEq, countQ_inr, List.take_length]

theorem same_eq (l : List P4) (hl : l.length ≤ 1048576) : M.same_MonthBalances big l l = some true := by
  unfold M.same_MonthBalances
  rw [if_neg (by simp)]
  refine Loop_eq (fun k => (k : Int)) l.length _ (by simp) (fun k hk => ?_) ?_ (by unfold big; omega)
  · simp only [lt_dec' hk, idx_nat hk, Option.bind_some, if_true]
    have : eqR rPosting l[k] l[k] = true := by unfold eqR; simp
    rw [if_neg (by rw [this]; simp), wrap_succ (by omega)]
  · simp

/-! ## The laws -/
theorem guardW (a1 : List P4) (hl : a1.length ≤ 1048576) (k : Unit → Option Bool) (hk : Wp (k ()) (· = true)) : Wp (Join (J := Unit) (R := Bool) (Loop (S := Int) (X := (Unit) ⊕ (Bool)) (fun s4 =>
(if (decide (s4 < (a1.length : Int))) = true then
((idx a1 s4).bind fun x6 =>
(if (decide (x6.2.2.2 < (0 : Int))) = true then
some true
else
(idx a1 s4).bind fun x7 =>
some (decide ((1000000000000000 : Int) < x7.2.2.2))) : Option (Bool)).bind fun j5 =>
(if j5 = true then
(M.law38_awake big).bind fun y8 =>
some (Sum.inr (Sum.inr y8))
else
some (Sum.inl (IntKind.i64.wrap (s4 + (1 : Int)))))
else
some (Sum.inr (Sum.inl ())))) big (0 : Int)) k) (· = true) := by
  rw [awake38]
  refine Wp.join (Wp.count (fun s => s) a1.length (fun _ _ => True) (by omega) rfl trivial fun i s hi hs _ => ?_)
  obtain rfl : s = _ := hs
  rcases Nat.lt_or_ge i a1.length with hlt | hge
  · refine Wp.dec (fun _ => ?_) fun h => absurd (by omega) h
    refine Wp.seq (fun _ => True) ?_ fun j _ => ?_
    · rw [idx_nat hlt, Option.bind_some]
      exact Wp.dec (fun _ => .some trivial) fun _ => .some trivial
    · cases j with
      | true => exact .some rfl
      | false =>
        rw [if_neg (by simp)]
        exact .some ⟨hlt, wrap_succ (by omega), trivial⟩
  · obtain rfl : i = a1.length := by omega
    refine Wp.dec (fun h => absurd h (by omega)) fun _ => .some hk
theorem BalanceOf_true (a0 : List A3) (a1 : List P4) (_ : WF (.slice rAward) a0) (_ : WF (.slice rPosting) a1) : M.law38_BalanceOf big a0 a1 = some true := by
  apply Wp.eq
  unfold M.law38_BalanceOf
  refine Wp.seq (fun j => j = true ∨ (a0.length ≤ 200 ∧ a1.length ≤ 500)) ?_ fun j hj => ?_
  · refine Wp.dec (fun _ => .some (.inl rfl)) fun h => .some ?_
    by_cases h2 : (500 : Int) < (a1.length : Int)
    · exact .inl (decide_eq_true h2)
    · exact .inr ⟨by omega, by omega⟩
  · cases j with
    | true => rw [if_pos rfl, awake38]; exact .some rfl
    | false =>
      obtain ⟨h0, h1⟩ := hj.resolve_left (by simp)
      rw [if_neg (by simp)]
      refine guardW a1 (by omega) _ ?_
      show Wp (((M.balance_Of big a0 a1).bind _).bind _) _
      rw [of_eq a0 a1 (by omega) (by omega), Option.bind_some]
      show Wp (((M.ref38_Of big a0 a1).bind _).bind _) _
      rw [rof_eq a0 a1 (by omega) (by omega), Option.bind_some]
      show Wp (((M.same_MonthBalances big (a0.map (mb a1)) (a0.map (mb a1))).bind _).bind _) _
      rw [same_eq _ (by simp; omega), Option.bind_some, if_pos rfl, awake38]
      exact .some rfl

theorem arr_unknown (ps : List P4) (a : A3) (h : a.2.2 ≠ 0) : arrF (mb ps a) = 0 := by
  unfold arrF mb
  simp only [if_neg h, Int.sub_self, w_0]
  rfl
theorem BalanceUnknown_true (a0 : List A3) (a1 : List P4) (_ : WF (.slice rAward) a0) (_ : WF (.slice rPosting) a1) : M.law38_BalanceUnknown big a0 a1 = some true := by
  apply Wp.eq
  unfold M.law38_BalanceUnknown
  refine Wp.seq (fun j => j = true ∨ (a0.length ≤ 200 ∧ a1.length ≤ 500)) ?_ fun j hj => ?_
  · refine Wp.dec (fun _ => .some (.inl rfl)) fun h => .some ?_
    by_cases h2 : (500 : Int) < (a1.length : Int)
    · exact .inl (decide_eq_true h2)
    · exact .inr ⟨by omega, by omega⟩
  · cases j with
    | true => rw [if_pos rfl, awake38]; exact .some rfl
    | false =>
      obtain ⟨h0, h1⟩ := hj.resolve_left (by simp)
      rw [if_neg (by simp)]
      refine guardW a1 (by omega) _ ?_
      show Wp ((M.balance_Of big a0 a1).bind _) _
      rw [of_eq a0 a1 (by omega) (by omega), Option.bind_some]
      have hlen : (a0.map (mb a1)).length = a0.length := List.length_map ..
      refine Wp.ndec (fun h => absurd (by rw [hlen]) h) fun _ => ?_
      refine Wp.join (Wp.count (fun s => s) a0.length (fun _ _ => True) (by omega) rfl trivial fun i s hi hs _ => ?_)
      obtain rfl : s = _ := hs
      rcases Nat.lt_or_ge i a0.length with hlt | hge
      · have hlt' : i < (a0.map (mb a1)).length := by rw [hlen]; exact hlt
        have hge : (a0.map (mb a1))[i] = mb a1 a0[i] := List.getElem_map ..
        have hdue : a0[i].2.2 = 0 → (mb a1 a0[i]).2.1 = a0[i].2.1 := fun h => by show (if _ then _ else _) = _; rw [if_pos h]
        refine Wp.dec (fun _ => ?_) fun h => absurd (by omega) h
        refine Wp.seq (fun j => j = false) ?_ fun j hj => ?_
        · simp only [idx_nat hlt, idx_nat hlt', hge, arr_eq, a_, b_, c_, d_, e_, f_, g_, h_, i_, j_, k_, l_, m_, n_, o_, p_, q_, r_, s_, t_, u_, v_, w_, x_, y_, z_, A_, B_, C_, D_, E_, F_, G_, H_, I_, J_, K_, L_, M_, N_, O_, P_, reduceCtorEq, Option.bind_some]
          refine ⟨fun h => absurd rfl h, fun _ => ⟨fun h => ⟨fun h' => absurd (arr_unknown a1 _ h) h', fun _ => fun h' => absurd h' h⟩, fun h _ => hdue h⟩⟩
        · subst hj
          rw [if_neg (by simp)]
          exact .some ⟨hlt, wrap_succ (by omega), trivial⟩
      · obtain rfl : i = a0.length := by omega
        refine Wp.dec (fun h => absurd h (by rw [hlen]; omega)) fun _ => .some ?_
        show Wp ((M.law38_awake big).bind _) _
        rw [awake38]
        exact .some rfl
end L
end Go.Proofs.Ytbhfmiaboidhnaa
