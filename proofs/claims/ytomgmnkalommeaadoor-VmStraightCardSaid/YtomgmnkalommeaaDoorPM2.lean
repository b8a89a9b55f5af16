/- The stack machine (plain laws). -/
import Derived.Test.YtomgmnkalommeaaDoorPM
namespace Go.Proofs.YtomgmnkalommeaaDoor
open Go Go.RowKit
set_option maxRecDepth 100000
namespace L

def RunQ (code : List Ty) (r : Vl × Int × Int) : Prop := ∃ y, M.bytecode_Verify big code = some y ∧ (y.2 ≠ 0 → r.2 = (0, 1)) ∧ (y.2 = 0 → (r.2.2 ≠ 0 → r.2.2 ≠ 1 ∧ r.2.1 = 0) ∧ (r.2.2 = 0 → 1 ≤ r.2.1 ∧ r.2.1 ≤ (code.length : Int)))

theorem Run_wp {code : List Ty} {env : rEnv.den} (he : EnvOK env) (hw : ∀ n ∈ code, WF rType n) : Wp (M.vm_Run big code env) (RunQ code) := by
  obtain ⟨y, hy, hv, _⟩ := Verify_wp code
  unfold M.vm_Run
  rw [hy]
  simp only [Option.bind_some]
  refine Wp.ndec (fun h => .some ⟨y, hy, fun _ => rfl, fun h' => absurd h' h⟩) fun h0 => ?_
  obtain ⟨D, d⟩ := hv h0
  have hle := d.le
  have hpos := d.pos
  refine Wp.mono (Q := fun r => (r.2.2 ≠ 0 → r.2.2 ≠ 1 ∧ r.2.1 = 0) ∧ (r.2.2 = 0 → 1 ≤ r.2.1 ∧ r.2.1 ≤ (code.length : Int))) ?_ fun r hr => ⟨y, hy, fun h => absurd h0 h, fun _ => hr⟩
  refine Wp.join (Wp.loop (fun s : Int × Int × List Vl => ∃ q k : Nat, s.1 = q ∧ s.2.1 = k ∧ k ≤ code.length ∧ gd D k = s.2.2.length ∧ q ≤ k ∧ (k = 0 ∨ 1 ≤ q)) (fun s => (code.length - s.2.1).toNat) ⟨0, 0, rfl, rfl, Nat.zero_le _, d.first, Nat.le_refl _, .inl rfl⟩ (by unfold big; simp only; omega) ?_)
  rintro ⟨_, _, stk⟩ ⟨q, k, rfl, rfl, hk, hD, hq, hz⟩
  dsimp only at hD ⊢
  have hb := d.bd k
  refine Wp.dec (fun hlt => ?_) fun hge => .some ?_
  · have hlt : k < code.length := by omega
    have hwn := hw _ (List.getElem_mem hlt)
    have hs := d.step k hlt (by omega)
    rw [idx_nat hlt]
    generalize code[k] = n at hs hwn
    simp only [Option.bind_some, isCond_eq, arity_eq, ite_some]
    rw [wrap_succ (k := q) (by omega)]
    refine Wp.join ?_
    rcases hs with ⟨h1, t, h2, h3, h4, h5⟩ | ⟨h1, h2, h3, t, h4, h5, h6, h7⟩ | ⟨h1, h2, h3, h4, h5, h6⟩
    · refine Wp.dec (fun _ => .some ?_) fun hne => absurd h1 hne
      refine Wp.some ⟨⟨q + 1, t, rfl, h2, h4, by rw [h5]; exact hD, by omega, .inr (by omega)⟩, ?_⟩
      simp only [h2]; omega
    · refine Wp.dec (fun h => by rcases h1 with h1 | h1 | h1 <;> (rw [h] at h1; exact absurd h1 (by decide))) fun _ => ?_
      rw [decide_eq_true h1]
      simp only [Bool.not_true, Bool.false_eq_true, if_false]
      have hsl : 1 ≤ stk.length := by omega
      have wl : IntKind.i64.wrap ((stk.length : Int) - 1) = ((stk.length - 1 : Nat) : Int) := by rw [wrap_id (by omega) (by omega)]; omega
      rw [wl, idx_nat (by omega)]
      simp only [Option.bind_some]
      generalize stk[stk.length - 1] = top
      refine Wp.ite (fun _ => .some ?_) fun _ => ?_
      · exact (⟨fun _ => ⟨by decide, rfl⟩, fun h => by simp at h⟩ : ((8 : Int) ≠ 0 → (8 : Int) ≠ 1 ∧ (0 : Int) = 0) ∧ ((8 : Int) = 0 → (1 : Int) ≤ 0 ∧ (0 : Int) ≤ (code.length : Int)))
      rw [cutA_zero (by omega), wrap_succ (k := k) (by omega)]
      simp only [Option.bind_some]
      have hjt : ∀ b : Bool, (if b = true then n.2 else ((k + 1 : Nat) : Int)) = ((if b = true then t else k + 1 : Nat) : Int) := fun b => by cases b <;> simp [h4]
      rw [hjt]
      generalize hjb : (decide (decide ((top.2.2 : Int) = 1) = decide ((n.1 : Int) = 53))) = b
      have hstep : ∀ (l : List Vl), gd D (if b = true then t else k + 1) = l.length → Wp (α := (Int × Int × List Vl) ⊕ (Int × List Vl) ⊕ (Vl × Int × Int)) (some (Sum.inl (((q + 1 : Nat) : Int), ((if b = true then t else k + 1 : Nat) : Int), l))) (LoopW (fun s : Int × Int × List Vl => ∃ q k : Nat, s.1 = q ∧ s.2.1 = k ∧ k ≤ code.length ∧ gd D k = s.2.2.length ∧ q ≤ k ∧ (k = 0 ∨ 1 ≤ q)) (fun s => (code.length - s.2.1).toNat) ((q : Int), (k : Int), stk) (JoinQ (fun j2 : Int × List Vl => (idx j2.2 0).bind fun x17 => some (x17, j2.1, 0)) fun r => (r.2.2 ≠ 0 → r.2.2 ≠ 1 ∧ r.2.1 = 0) ∧ (r.2.2 = 0 → 1 ≤ r.2.1 ∧ r.2.1 ≤ (code.length : Int)))) := by
        intro l hl
        refine .some ⟨⟨q + 1, if b = true then t else k + 1, rfl, rfl, by split <;> omega, hl, by split <;> omega, .inr (by omega)⟩, ?_⟩
        simp only; split <;> omega
      refine Wp.ite (fun hp => ?_) fun hp => ?_
      · refine .some (hstep _ ?_)
        rw [List.length_take, Nat.min_eq_left (by omega)]
        split
        · rename_i hbt
          rw [h7]
          have h50 : (n.1 : Int) = 50 := by simpa [hbt] using hp
          rw [if_pos h50]; omega
        · rw [h3]; omega
      · refine .some (hstep _ ?_)
        have hbt : b = true := by cases b <;> simp at hp ⊢
        subst hbt
        have h50 : ¬ (n.1 : Int) = 50 := by simpa using hp
        rw [if_pos rfl, h7, if_neg h50]; exact hD
    · refine Wp.dec (fun h => absurd h h1) fun _ => ?_
      rw [decide_eq_false h2]
      simp only [Bool.not_false, if_true]
      obtain ⟨a, ha⟩ : ∃ a : Nat, ar n.1 = a := ⟨(ar n.1).toNat, by omega⟩
      rw [ha] at h3 h4 h5 h6 ⊢
      have wl : IntKind.i64.wrap ((stk.length : Int) - (a : Int)) = ((stk.length - a : Nat) : Int) := by rw [wrap_id (by omega) (by omega)]; omega
      rw [wl, cutA_eq (stk.length - a) stk.length rfl rfl (by omega) (Nat.le_refl _), cutA_zero (by omega), wrap_succ (k := k) (by omega)]
      simp only [Option.bind_some]
      refine Wp.seq _ (Apply_wp he hwn (by simp; omega)) fun r hr => ?_
      refine Wp.ndec (fun hne => .some ?_) fun hok => ?_
      · have hc := hr.code
        exact (⟨fun _ => ⟨by omega, rfl⟩, fun h => absurd h hne⟩ : (r.2 ≠ 0 → r.2 ≠ 1 ∧ (0 : Int) = 0) ∧ (r.2 = 0 → (1 : Int) ≤ 0 ∧ (0 : Int) ≤ (code.length : Int)))
      · rw [appA_some (by simp; omega)]
        simp only [Option.bind_some]
        refine .some (Wp.some ⟨⟨q + 1, k + 1, rfl, rfl, hlt, ?_, by omega, .inr (by omega)⟩, ?_⟩)
        · rw [h5, hD]
          simp only [List.length_append, List.length_take, List.length_singleton]
          rw [Nat.min_eq_left (by omega)]
          omega
        · simp only; omega
  · obtain rfl : k = code.length := by omega
    show Wp ((idx stk 0).bind _) _
    have hl := d.last
    obtain ⟨v, vs, rfl⟩ : ∃ v vs, stk = v :: vs := by
      cases stk with
      | nil => simp at hD; omega
      | cons v vs => exact ⟨v, vs, rfl⟩
    refine .some ⟨fun h => absurd rfl h, fun _ => ⟨?_, ?_⟩⟩ <;> simp only <;> omega
end L
end Go.Proofs.YtomgmnkalommeaaDoor
