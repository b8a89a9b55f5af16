/- Jumps to jumps: what ThreadJumps answers (plain laws). -/
import Derived.Test.YtpgggmcpflgniaaDoorPQ6
namespace Go.Proofs.YtpgggmcpflgniaaDoor
open Go Go.RowKit
set_option maxRecDepth 100000
namespace L

/-- From target to target, by jumps alone. -/
inductive Thr (code : List Ty) : Int → Int → Prop
  | refl (t : Int) : Thr code t t
  | next {t : Nat} {n : Ty} {T : Int} (h : code[t]? = some n) (h51 : (n.1 : Int) = 51) (hlt : (t : Int) < n.2) (hT : Thr code n.2 T) : Thr code t T
theorem Thr.snoc {code : List Ty} {s : Int} {t : Nat} {n : Ty} (h : Thr code s t) (hn : code[t]? = some n) (h51 : (n.1 : Int) = 51) (hlt : (t : Int) < n.2) : Thr code s n.2 := by
  generalize hx : (t : Int) = x at h
  induction h with
  | refl u => subst hx; exact .next hn h51 hlt (.refl _)
  | next g g51 glt gT ih => exact .next g g51 glt (ih hx)

def Ran (x : Int) : Prop := -9223372036854775808 ≤ x ∧ x ≤ 9223372036854775807
theorem wf_ran {n : Ty} (h : WF rNode n) : Ran n.2 := h.2

theorem target_wp {code : List Ty} (hl : code.length ≤ 1000) (hw : ∀ n ∈ code, WF rNode n) {t0 : Int} (h0 : Ran t0) : Wp (Loop (S := Int) (X := Int) (fun s9 =>
((if (decide ((0 : Int) ≤ s9)) = true then
(if (decide (s9 < (code.length : Int))) = true then
(idx code s9).bind fun x11 =>
(if (decide (x11.1 = (51 : Int))) = true then
(idx code s9).bind fun x12 =>
some (decide (s9 < x12.2))
else
some false)
else
some false)
else
some false) : Option (Bool)).bind fun j10 =>
(if j10 = true then
(idx code s9).bind fun x13 =>
some (Sum.inl x13.2)
else
some (Sum.inr s9))) big t0) fun T => Thr code t0 T ∧ Ran T := by
  refine Wp.loop (fun s => Thr code t0 s ∧ Ran s) (fun s => (code.length - s).toNat) ⟨.refl _, h0⟩ (by obtain ⟨a, b⟩ := h0; unfold big; omega) ?_
  rintro s ⟨hs, hr⟩
  refine Wp.seq (fun b => b = true → ∃ (t : Nat) (n : Ty), s = t ∧ code[t]? = some n ∧ (n.1 : Int) = 51 ∧ (t : Int) < n.2) ?_ fun b hb => ?_
  · refine Wp.dec (fun h1 => Wp.dec (fun h2 => ?_) fun _ => .some fun h => by cases h) fun _ => .some fun h => by cases h
    obtain ⟨t, rfl⟩ : ∃ t : Nat, s = t := ⟨s.toNat, by omega⟩
    have ht : t < code.length := by omega
    rw [idx_nat ht]
    simp only [Option.bind_some]
    refine Wp.dec (fun h3 => .some fun h4 => ?_) fun _ => .some fun h => by cases h
    exact ⟨t, _, rfl, List.getElem?_eq_getElem ht, h3, of_decide_eq_true h4⟩
  · refine Wp.ite (fun h => ?_) fun _ => .some ⟨hs, hr⟩
    obtain ⟨t, n, rfl, h1, h2, h3⟩ := hb h
    obtain ⟨ht, rfl⟩ := List.getElem?_eq_some_iff.1 h1
    rw [idx_nat ht]
    simp only [Option.bind_some]
    refine .some ⟨⟨hs.snoc h1 h2 h3, wf_ran (hw _ (List.getElem_mem ht))⟩, ?_⟩
    revert h3
    generalize (code[t].2 : Int) = z
    intro h3
    have h3 : (t : Int) < z := h3
    show ((code.length : Int) - z).toNat < ((code.length : Int) - t).toNat
    have : (t : Int) < code.length := by omega
    omega

/-- Each instruction with its jump threaded. -/
def Th1 (code : List Ty) (n m : Ty) : Prop := (m.1 : Int) = n.1 ∧ WF rNode m ∧ (¬ jop n → m = n) ∧ (jop n → Thr code n.2 m.2)

theorem Thread_wp {code : List Ty} (hl : code.length ≤ 1000) (hw : ∀ n ∈ code, WF rNode n) : Wp (M.peephole_ThreadJumps big code) fun y => ((¬ ∃ F, Fits code F) ∧ y = code) ∨ ((∃ F, Fits code F) ∧ y.length = code.length ∧ ∀ (i : Nat) n, code[i]? = some n → ∃ m, y[i]? = some m ∧ Th1 code n m) := by
  unfold M.peephole_ThreadJumps
  rw [clone_eq hl]
  simp only [Option.bind_some]
  obtain ⟨b, hb, hb2⟩ := accepted_wp code
  rw [hb]
  simp only [Option.bind_some]
  refine Wp.ite (fun hc => .some (.inl ⟨fun h => (by rw [hb2.2 h] at hc; cases hc), rfl⟩)) fun hc => ?_
  have hF : ∃ F, Fits code F := hb2.1 (by simpa using hc)
  refine Wp.loop (fun s : Int × List Ty => ∃ i : Nat, s.1 = i ∧ i ≤ code.length ∧ s.2.length = code.length ∧ (∀ (j : Nat) n, code[j]? = some n → j < i → ∃ m, s.2[j]? = some m ∧ Th1 code n m) ∧ ∀ j : Nat, i ≤ j → s.2[j]? = code[j]?) (fun s => (code.length - s.1).toNat) ⟨0, rfl, Nat.zero_le _, rfl, fun j n _ h => by omega, fun j _ => rfl⟩ (by unfold big; simp only; omega) ?_
  rintro ⟨_, out⟩ ⟨i, rfl, hi, hol, hdone, hrest⟩
  dsimp only at hol hdone hrest ⊢
  refine Wp.dec (fun h => ?_) fun h => .some (.inr ⟨hF, hol, fun j n hn => hdone j n hn ?_⟩)
  case refine_2 =>
    have := (List.getElem?_eq_some_iff.1 hn).1
    omega
  have hi' : i < code.length := by omega
  have hio : i < out.length := by omega
  have hge := List.getElem?_eq_getElem hi'
  have hoe : out[i] = code[i] := by
    have := hrest i (Nat.le_refl _)
    rw [List.getElem?_eq_getElem hio, hge] at this
    exact Option.some.inj this
  have hwn := hw _ (List.getElem_mem hi')
  rw [idx_nat hi']
  simp only [Option.bind_some, pisJump_eq]
  refine Wp.seq (fun o => o.length = code.length ∧ (∃ m, o[i]? = some m ∧ Th1 code code[i] m) ∧ ∀ j : Nat, j ≠ i → o[j]? = out[j]?) ?_ fun o ho => .some ?_
  · refine Wp.seq (fun o => o.length = code.length ∧ (∃ m, o[i]? = some m ∧ Th1 code code[i] m) ∧ ∀ j : Nat, j ≠ i → o[j]? = out[j]?) ?_ fun o ho => .some ho
    generalize code[i] = n at hwn hoe hge ⊢
    refine Wp.ndec (fun hj => .some ⟨hol, ⟨n, by rw [List.getElem?_eq_getElem hio, hoe], rfl, hwn, fun _ => rfl, fun h => absurd h hj⟩, fun j _ => rfl⟩) fun hj => ?_
    refine Wp.seq _ (target_wp hl hw (wf_ran hwn)) fun T hT => ?_
    rw [idx_nat hio, hoe]
    simp only [Option.bind_some]
    refine .some ⟨by simp [setL, hol], ⟨((n.1, T) : Int × Int), by simp [setL, hio], rfl, ⟨hwn.1, hT.2⟩, fun h => absurd hj h, fun _ => hT.1⟩, fun j hj => ?_⟩
    simp only [setL, Int.toNat_natCast]
    rw [List.getElem?_set_ne (Ne.symm hj)]
  · obtain ⟨o1, o2, o3⟩ := ho
    rw [wrap_succ (by omega)]
    refine ⟨⟨i + 1, rfl, hi', o1, fun j n hn hj => ?_, fun j hj => ?_⟩, by simp only; omega⟩
    · by_cases e : j = i
      · subst e
        rw [hge] at hn
        obtain rfl := Option.some.inj hn
        exact o2
      · obtain ⟨m, m1, m2⟩ := hdone j n hn (by omega)
        exact ⟨m, by rw [o3 j e]; exact m1, m2⟩
    · rw [o3 j (by omega)]
      exact hrest j (by omega)

theorem thr_depth {code : List Ty} {F : List Int} (f : Fits code F) {x T : Int} (h : Thr code x T) : ∀ p : Nat, x = p → 0 ≤ gd F p → p ≤ code.length → ∃ q : Nat, T = q ∧ p ≤ q ∧ q ≤ code.length ∧ gd F q = gd F p := by
  induction h with
  | refl t => exact fun p e h0 hp => ⟨p, e, Nat.le_refl _, hp, rfl⟩
  | @next t n T hn h51 hlt hT ih =>
    intro p e h0 hp
    obtain rfl : t = p := by omega
    obtain ⟨s, _⟩ := f.at hn h0
    rcases s with ⟨_, u, u1, u2, u3, u4⟩ | ⟨c, _⟩ | ⟨c, _⟩
    · obtain ⟨q, q1, q2, q3, q4⟩ := ih u u1 (by omega) u3
      exact ⟨q, q1, by omega, q3, by omega⟩
    · exact absurd h51 (cop_ne c)
    · exact absurd h51 c

theorem thread_same {code y : List Ty} {F : List Int} (f : Fits code F) (hyl : y.length = code.length) (hy : ∀ (i : Nat) n, code[i]? = some n → ∃ m, y[i]? = some m ∧ Th1 code n m) : Same code y := by
  have one : ∀ p : Nat, p < code.length → 0 ≤ gd F p → Go1 code y (fun p q => 0 ≤ gd F p ∧ p ≤ code.length ∧ Thr code p q) p p := by
    intro p hp h0
    have hge := List.getElem?_eq_getElem hp
    generalize code[p] = n at hge
    obtain ⟨m, hm, e1, hwm, hno, hth⟩ := hy p n hge
    by_cases hj : jop n
    · obtain ⟨s, _⟩ := f.at hge h0
      have ht := hth hj
      rcases s with ⟨c1, t, c2, c3, c4, c5⟩ | ⟨c1, c2, c3, t, c4, c5, c6, c7⟩ | ⟨c1, c2, _⟩
      · rw [show (n.2 : Int) = t from c2] at ht
        obtain ⟨q, q1, q2, q3, q4⟩ := thr_depth f ht t rfl (by omega) c4
        rw [show (m.2 : Int) = q from q1] at ht
        exact .jump hge hm c1 (e1.trans c1) c2 q1 (by omega) ⟨by omega, c4, ht⟩
      · have h7 : 0 ≤ gd F t := by rw [c7]; split <;> omega
        rw [show (n.2 : Int) = t from c4] at ht
        obtain ⟨q, q1, q2, q3, q4⟩ := thr_depth f ht t rfl h7 c6
        rw [show (m.2 : Int) = q from q1] at ht
        exact .cond hge hm c1 e1 c4 q1 (by omega) ⟨h7, c6, ht⟩ ⟨by omega, hp, .refl _⟩
      · exact (jop_cases hj).elim (fun e => absurd e c1) (fun e => absurd e c2)
    · rw [hno hj] at hm
      obtain ⟨s1, s2, s3, _⟩ := f.op hge hj h0
      exact .op hge hm hj ⟨by omega, hp, .refl _⟩
  have s : Sim code y F F (fun p q => 0 ≤ gd F p ∧ p ≤ code.length ∧ Thr code p q) := by
    refine ⟨f, by rw [hyl]; exact f.pos, by rw [hyl]; exact f.le, by rw [hyl]; exact f.len, f.bd, fun p q h => ?_, fun p q h => ?_, fun q hq h0 => ⟨q, ⟨h0, by omega, .refl _⟩, one q (by omega) h0⟩, ⟨by rw [f.first]; decide, Nat.zero_le _, .refl _⟩, ?_⟩
    · obtain ⟨a1, a2, a3⟩ := h
      obtain ⟨q', b1, b2, b3, b4⟩ := thr_depth f a3 p rfl a1 a2
      obtain rfl : q = q' := by omega
      exact ⟨a1, a2, by omega, b4⟩
    · obtain ⟨a1, a2, a3⟩ := h
      generalize hx : (p : Int) = x at a3
      generalize hz : (q : Int) = z at a3
      cases a3 with
      | refl t =>
        obtain rfl : p = q := by omega
        by_cases hp : p = code.length
        · exact .inl ⟨hp, by omega⟩
        · exact .inr (.inl (one p (by omega) a1))
      | @next t n T hn h51 hlt hT =>
        obtain rfl : p = t := by omega
        obtain ⟨s, _⟩ := f.at hn a1
        rcases s with ⟨_, u, u1, u2, u3, u4⟩ | ⟨c, _⟩ | ⟨c, _⟩
        · refine .inr (.inr ⟨n, u, hn, h51, u1, by omega, u3, ?_⟩)
          rw [show (n.2 : Int) = u from u1] at hT
          exact hT
        · exact absurd h51 (cop_ne c)
        · exact absurd h51 c
    · rw [hyl]
      exact ⟨by rw [f.last]; decide, Nat.le_refl _, .refl _⟩
  refine s.same (by omega) fun m hm => ?_
  obtain ⟨i, hi, rfl⟩ := List.getElem_of_mem hm
  have hi' : i < code.length := by omega
  obtain ⟨m', h1, h2⟩ := hy i _ (List.getElem?_eq_getElem hi')
  rw [List.getElem?_eq_getElem hi] at h1
  rw [Option.some.inj h1]
  exact h2.2.1
end L
end Go.Proofs.YtpgggmcpflgniaaDoor
