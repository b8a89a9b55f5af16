/- The reference's dependencies between definitions (plain laws): insert, References, Direct, Transitive. -/
import Derived.Test.YtjeeligfdpociaaGreatRB
namespace Go.Proofs.YtjeeligfdpociaaGreat
open Go Go.RowKit
set_option maxRecDepth 100000
set_option linter.unusedSimpArgs false
namespace L

/-- n put into an increasing list. -/
def ins (n : Int) : List Int → List Int
  | [] => [n]
  | x :: l => if x < n then x :: ins n l else if x = n then x :: l else n :: x :: l
theorem ins_cons (n x : Int) (l : List Int) : ins n (x :: l) = if x < n then x :: ins n l else if x = n then x :: l else n :: x :: l := rfl
theorem ins_len (n : Int) : ∀ l : List Int, (ins n l).length ≤ l.length + 1
  | [] => Nat.le_refl _
  | x :: l => by
    have := ins_len n l
    unfold ins
    split
    · simp only [List.length_cons]; omega
    split <;> simp only [List.length_cons] <;> omega
theorem mem_ins {n y : Int} : ∀ {l : List Int}, y ∈ ins n l ↔ y = n ∨ y ∈ l
  | [] => by simp [ins]
  | x :: l => by
    unfold ins
    split
    · rw [List.mem_cons, mem_ins, List.mem_cons]
      exact ⟨fun h => by rcases h with h | h | h <;> simp [h], fun h => by rcases h with h | h | h <;> simp [h]⟩
    split
    · rename_i h
      subst h
      simp
    · simp
theorem insert10_eq (l : List Int) (n : Int) (hl : l.length ≤ 4294967000) : M.ref10_insert big l n = some (ins n l) := by
  apply Wp.eq
  unfold M.ref10_insert
  rw [wp_bind]
  refine Wp.count (fun s => s.2.1) l.length (fun k s => (s.1 = false → s.2.2 ++ ins n (l.drop k) = ins n l ∧ s.2.2.length ≤ k) ∧ (s.1 = true → s.2.2 ++ l.drop k = ins n l) ∧ s.2.2.length ≤ k + 1) (by omega) rfl ⟨fun _ => ⟨rfl, Nat.le_refl _⟩, fun h => (by cases h), by simp⟩ fun k s hk hs hJ => ?_
  obtain ⟨d, i, out⟩ := s
  dsimp only at hs hJ
  subst hs
  obtain ⟨h1, h2, h3⟩ := hJ
  simp only [a_, b_, c_, d_, e_, f_, g_, h_, i_, j_, k_, l_, m_, n_, o_, p_, q_, r_, s_, t_, u_, v_, w_, x_, y_, z_, A_, B_, C_, D_, E_, F_, G_, H_, I_, J_, K_, L_, M_, N_, O_, P_, reduceCtorEq, countQ_inl, countQ_inr]
  refine ⟨fun hlt => ?_, fun hge => ?_⟩
  · have hlt : k < l.length := by omega
    rw [List.drop_eq_getElem_cons hlt] at h1 h2
    simp only [idx_nat hlt, wrapS (m := l.length) (by omega) hlt, a_, b_, c_, d_, e_, f_, g_, h_, i_, j_, k_, l_, m_, n_, o_, p_, q_, r_, s_, t_, u_, v_, w_, x_, y_, z_, A_, B_, C_, D_, E_, F_, G_, H_, I_, J_, K_, L_, M_, N_, O_, P_, reduceCtorEq]
    refine ⟨fun hd => ?_, fun hd => ?_⟩
    · obtain ⟨h1, h4⟩ := h1 hd
      rw [ins_cons] at h1
      refine ⟨fun hle => ⟨fun hlt2 => ?_, fun hge2 => ?_⟩, fun hle => ?_⟩
      · refine wp_app.2 ⟨by simp; omega, wp_app.2 ⟨by simp; omega, hlt, ?_, by simp; omega⟩⟩
        rw [if_neg (by omega), if_neg (by omega)] at h1
        rw [← h1]
        simp
      · refine wp_app.2 ⟨by simp; omega, hlt, ?_, by simp; omega⟩
        rw [if_neg (by omega), if_pos (by omega)] at h1
        rw [← h1]
        simp
      · refine wp_app.2 ⟨by simp; omega, hlt, fun _ => ⟨?_, by simp; omega⟩, fun h => ?_, by simp; omega⟩
        · rw [if_pos (by omega)] at h1
          rw [← h1]
          simp
        · rw [hd] at h; cases h
    · have h2 := h2 hd
      refine wp_app.2 ⟨by simp; omega, hlt, fun h => ?_, fun _ => ?_, by simp; omega⟩
      · rw [hd] at h; cases h
      · rw [← h2]
        simp
  · obtain rfl : k = l.length := by omega
    rw [List.drop_length] at h1 h2
    refine ⟨fun hd => wp_app.2 ⟨by simp; omega, (h1 hd).1⟩, fun hd => ?_⟩
    rw [← h2 hd, List.append_nil]
theorem insert16_eq (l : List Int) (n : Int) (hl : l.length ≤ 4294967000) : M.ref16_insert big l n = some (ins n l) := insert10_eq l n hl

/-- What the nodes of some operations refer to. -/
def refsBy (p : Int → Bool) (e : List Ty) : List Int := e.foldl (fun l n => if p n.1 = true then ins n.2 l else l) []
theorem refs_len (p : Int → Bool) (e : List Ty) : (refsBy p e).length ≤ e.length := by
  unfold refsBy
  suffices ∀ (e : List Ty) (l : List Int), (e.foldl (fun l n => if p n.1 = true then ins n.2 l else l) l).length ≤ l.length + e.length by simpa using this e []
  intro e
  induction e with
  | nil => intro l; simp
  | cons n e ih =>
    intro l
    have h1 := ih (if p n.1 = true then ins n.2 l else l)
    have h2 := ins_len n.2 l
    rw [List.foldl_cons, List.length_cons]
    have h3 : (if p n.1 = true then ins n.2 l else l).length ≤ l.length + 1 := by split <;> omega
    omega
def isInp (op : Int) : Bool := decide (op = 7)
def isDef (op : Int) : Bool := decide (op = 8)
def isMem (op : Int) : Bool := decide (36 ≤ op ∧ op ≤ 39)
theorem refs_eq (e : List Ty) (he : e.length ≤ 100000) : M.ref10_References big e = some (refsBy isInp e, refsBy isDef e, refsBy isMem e) := by
  apply Wp.eq
  unfold M.ref10_References
  rw [wp_bind]
  refine Wp.fold (fun s => s.1) (fun s => s.2) e (fun (c : List Int × List Int × List Int) n => (if isInp n.1 = true then ins n.2 c.1 else c.1, if isDef n.1 = true then ins n.2 c.2.1 else c.2.1, if isMem n.1 = true then ins n.2 c.2.2 else c.2.2)) ([], [], []) (fun k c => c.1.length ≤ k ∧ c.2.1.length ≤ k ∧ c.2.2.length ≤ k) (by omega) rfl rfl (by simp) (fun k s hlt hs hI => ?_) fun s hs hc hI => ?_
  · obtain ⟨i, a, b, c⟩ := s
    dsimp only at hs hI
    subst hs
    have l1 := ins_len e[k].2 a
    have l2 := ins_len e[k].2 b
    have l3 := ins_len e[k].2 c
    simp only [if_pos (lt_dec' hlt), idx_nat hlt, insert10_eq a _ (by omega), insert10_eq b _ (by omega), insert10_eq c _ (by omega), wrapS (m := e.length) (by omega) hlt, a_, b_, c_, d_, e_, f_, g_, h_, i_, j_, k_, l_, m_, n_, o_, p_, q_, r_, s_, t_, u_, v_, w_, x_, y_, z_, A_, B_, C_, D_, E_, F_, G_, H_, I_, J_, K_, L_, M_, N_, O_, P_, reduceCtorEq, foldQ_inl]
    unfold isInp isDef isMem
    generalize e[k] = n at *
    obtain ⟨(op : Int), (m : Int)⟩ := n
    dsimp only [rInt, Row.den] at *
    by_cases g1 : op = 7
    · subst g1
      simp only [show ¬ (7 : Int) = 8 by omega, show ¬ (36 : Int) ≤ 7 by omega, a_, b_, c_, d_, e_, f_, g_, h_, i_, j_, k_, l_, m_, n_, o_, p_, q_, r_, s_, t_, u_, v_, w_, x_, y_, z_, A_, B_, C_, D_, E_, F_, G_, H_, I_, J_, K_, L_, M_, N_, O_, P_, reduceCtorEq]
      omega
    by_cases g2 : op = 8
    · subst g2
      simp only [show ¬ (8 : Int) = 7 by omega, show ¬ (36 : Int) ≤ 8 by omega, a_, b_, c_, d_, e_, f_, g_, h_, i_, j_, k_, l_, m_, n_, o_, p_, q_, r_, s_, t_, u_, v_, w_, x_, y_, z_, A_, B_, C_, D_, E_, F_, G_, H_, I_, J_, K_, L_, M_, N_, O_, P_, reduceCtorEq]
      omega
    by_cases g3 : 36 ≤ op <;> by_cases g4 : op ≤ 39 <;> simp only [g1, g2, g3, g4, a_, b_, c_, d_, e_, f_, g_, h_, i_, j_, k_, l_, m_, n_, o_, p_, q_, r_, s_, t_, u_, v_, w_, x_, y_, z_, A_, B_, C_, D_, E_, F_, G_, H_, I_, J_, K_, L_, M_, N_, O_, P_, reduceCtorEq] <;> omega
  · obtain ⟨i, a, b, c⟩ := s
    dsimp only at hs hc
    subst hs
    simp only [show ¬ ((e.length : Int) < (e.length : Int)) by omega, a_, b_, c_, d_, e_, f_, g_, h_, i_, j_, k_, l_, m_, n_, o_, p_, q_, r_, s_, t_, u_, v_, w_, x_, y_, z_, A_, B_, C_, D_, E_, F_, G_, H_, I_, J_, K_, L_, M_, N_, O_, P_, reduceCtorEq, stopQ_inr]
    have : ∀ (e : List Ty) (c : List Int × List Int × List Int), e.foldl (fun (c : List Int × List Int × List Int) n => (if isInp n.1 = true then ins n.2 c.1 else c.1, if isDef n.1 = true then ins n.2 c.2.1 else c.2.1, if isMem n.1 = true then ins n.2 c.2.2 else c.2.2)) c = (e.foldl (fun l n => if isInp n.1 = true then ins n.2 l else l) c.1, e.foldl (fun l n => if isDef n.1 = true then ins n.2 l else l) c.2.1, e.foldl (fun l n => if isMem n.1 = true then ins n.2 l else l) c.2.2) := by
      intro e
      induction e with
      | nil => intro c; rfl
      | cons n e ih => intro c; rw [List.foldl_cons, ih]; rfl
    rw [hc, this]
    rfl

/-! ## Direct and transitive dependencies -/
def Srt (n : Nat) (l : List Int) : Prop := l.Pairwise (· < ·) ∧ ∀ x ∈ l, 0 ≤ x ∧ x < (n : Int)
theorem Srt.nil {n : Nat} : Srt n [] := ⟨.nil, fun _ h => by cases h⟩
theorem pw_len {l : List Int} : ∀ {a b : Int}, l.Pairwise (· < ·) → (∀ x ∈ l, a ≤ x ∧ x < b) → (l.length : Int) ≤ max 0 (b - a) := by
  induction l with
  | nil => intro a b _ _; simp; omega
  | cons x l ih =>
    intro a b hp hb
    obtain ⟨h1, h2⟩ := List.pairwise_cons.1 hp
    have hx := hb x (List.mem_cons_self ..)
    have := ih (a := x + 1) (b := b) h2 fun y hy => ⟨h1 y hy, (hb y (List.mem_cons_of_mem _ hy)).2⟩
    simp only [List.length_cons]
    omega
theorem Srt.len {n : Nat} {l : List Int} (h : Srt n l) : l.length ≤ n := by
  have := pw_len h.1 h.2
  omega
theorem pw_ins {n : Int} : ∀ {l : List Int}, l.Pairwise (· < ·) → (ins n l).Pairwise (· < ·)
  | [], _ => List.pairwise_singleton ..
  | x :: l, h => by
    obtain ⟨h1, h2⟩ := List.pairwise_cons.1 h
    rw [ins_cons]
    split
    · exact List.pairwise_cons.2 ⟨fun y hy => by rcases mem_ins.1 hy with rfl | hy; assumption; exact h1 y hy, pw_ins h2⟩
    split
    · exact h
    · refine List.pairwise_cons.2 ⟨fun y hy => ?_, h⟩
      rcases List.mem_cons.1 hy with rfl | hy
      · omega
      · have := h1 y hy; omega
theorem Srt.ins {n : Nat} {x : Int} {l : List Int} (h : Srt n l) (hx : 0 ≤ x ∧ x < (n : Int)) : Srt n (ins x l) :=
  ⟨pw_ins h.1, fun y hy => by rcases mem_ins.1 hy with rfl | hy; exact hx; exact h.2 y hy⟩
/-- What exists among what is referred to, put in. -/
def insIf (n : Nat) (out l : List Int) : List Int := l.foldl (fun o x => if 0 ≤ x ∧ x < (n : Int) then ins x o else o) out
theorem Srt.insIf {n : Nat} : ∀ {l out : List Int}, Srt n out → Srt n (insIf n out l)
  | [], _, h => h
  | x :: l, out, h => by
    show Srt n (L.insIf n (if 0 ≤ x ∧ x < (n : Int) then L.ins x out else out) l)
    refine Srt.insIf ?_
    split
    · exact h.ins ‹_›
    · exact h
/-- What the rules of a definition refer to. -/
def dirS (s : Scp) (d : Int) : List Int :=
  if 0 ≤ d ∧ d < (s.2.2.2.1.length : Int) then s.2.2.2.2.foldl (fun out r => if (r.2.1 : Int) = d then insIf s.2.2.2.1.length (insIf s.2.2.2.1.length out (refsBy isDef r.2.2.2.2.2.1)) (refsBy isDef r.2.2.2.2.2.2.1) else out) [] else []
theorem dirS_srt (s : Scp) (d : Int) : Srt s.2.2.2.1.length (dirS s d) := by
  unfold dirS
  split
  · suffices ∀ (rs : List Rul) (out : List Int), Srt s.2.2.2.1.length out → Srt s.2.2.2.1.length (rs.foldl (fun out r => if (r.2.1 : Int) = d then insIf s.2.2.2.1.length (insIf s.2.2.2.1.length out (refsBy isDef r.2.2.2.2.2.1)) (refsBy isDef r.2.2.2.2.2.2.1) else out) out) from this _ _ .nil
    intro rs
    induction rs with
    | nil => intro out h; exact h
    | cons r rs ih =>
      intro out h
      rw [List.foldl_cons]
      refine ih _ ?_
      split
      · exact h.insIf.insIf
      · exact h
  · exact .nil
theorem is_eq (s : Scp) (d : Int) : M.ref16_is big s d = some (decide (0 ≤ d ∧ d < (s.2.2.2.1.length : Int))) := by
  apply Wp.eq; unfold M.ref16_is; simp only [a_, b_, c_, d_, e_, f_, g_, h_, i_, j_, k_, l_, m_, n_, o_, p_, q_, r_, s_, t_, u_, v_, w_, x_, y_, z_, A_, B_, C_, D_, E_, F_, G_, H_, I_, J_, K_, L_, M_, N_, O_, P_, reduceCtorEq]; omega
/-- The parts of a scope are few enough for the lists made of them. -/
def Few (s : Scp) : Prop := s.2.2.2.1.length ≤ 100000 ∧ s.2.2.2.2.length ≤ 100000 ∧ ∀ r ∈ s.2.2.2.2, r.2.2.2.2.2.1.length ≤ 100000 ∧ r.2.2.2.2.2.2.1.length ≤ 100000
theorem dirS_eq (s : Scp) (hs : Few s) (d : Int) : M.ref16_Direct big s d = some (dirS s d) := by
  apply Wp.eq
  unfold M.ref16_Direct
  simp only [is_eq, a_, b_, c_, d_, e_, f_, g_, h_, i_, j_, k_, l_, m_, n_, o_, p_, q_, r_, s_, t_, u_, v_, w_, x_, y_, z_, A_, B_, C_, D_, E_, F_, G_, H_, I_, J_, K_, L_, M_, N_, O_, P_, reduceCtorEq]
  unfold dirS
  refine ⟨fun h => by rw [if_neg h], fun h => ?_⟩
  rw [if_pos h]
  obtain ⟨hn, hm, hr⟩ := hs
  refine Wp.fold (fun s => s.1) (fun s => s.2) s.2.2.2.2 (fun out (r : Rul) => if (r.2.1 : Int) = d then insIf s.2.2.2.1.length (insIf s.2.2.2.1.length out (refsBy isDef r.2.2.2.2.2.1)) (refsBy isDef r.2.2.2.2.2.2.1) else out) [] (fun _ c => Srt s.2.2.2.1.length c) (by omega) rfl rfl .nil (fun k q hlt hs hI => ?_) fun q hs hc hI => ?_
  · obtain ⟨i, out⟩ := q
    dsimp only at hs hI
    subst hs
    obtain ⟨r1, r2⟩ := hr _ (List.getElem_mem hlt)
    have l1 := refs_len isDef s.2.2.2.2[k].2.2.2.2.2.1
    have l2 := refs_len isDef s.2.2.2.2[k].2.2.2.2.2.2.1
    simp only [if_pos (lt_dec' hlt), lt_nat hlt, idx_nat hlt, refs_eq _ r1, refs_eq _ r2, wrapS (m := s.2.2.2.2.length) (by omega) hlt, a_, b_, c_, d_, e_, f_, g_, h_, i_, j_, k_, l_, m_, n_, o_, p_, q_, r_, s_, t_, u_, v_, w_, x_, y_, z_, A_, B_, C_, D_, E_, F_, G_, H_, I_, J_, K_, L_, M_, N_, O_, P_, reduceCtorEq, foldQ_inl]
    refine ⟨fun hd => ⟨by rw [if_neg hd], by rw [if_neg hd]; exact hI⟩, fun hd => ?_⟩
    · simp only [hd, if_true]
      refine Wp.fold (fun s => s.1) (fun s => s.2) (refsBy isDef s.2.2.2.2[k].2.2.2.2.2.1) (fun o x => if 0 ≤ x ∧ x < (s.2.2.2.1.length : Int) then ins x o else o) _ (fun _ c => Srt s.2.2.2.1.length c) (by omega) rfl rfl hI (fun i c hli hs hI => ?_) fun c hs hc hI => ?_
      · obtain ⟨i, o⟩ := c
        dsimp only at hs hI
        subst hs
        have := hI.len
        simp only [if_pos (lt_dec' hli), lt_nat hli, idx_nat hli, insert16_eq o _ (by omega), wrapS (m := (refsBy isDef s.2.2.2.2[k].2.2.2.2.2.1).length) (by omega) hli, a_, b_, c_, d_, e_, f_, g_, h_, i_, j_, k_, l_, m_, n_, o_, p_, q_, r_, s_, t_, u_, v_, w_, x_, y_, z_, A_, B_, C_, D_, E_, F_, G_, H_, I_, J_, K_, L_, M_, N_, O_, P_, reduceCtorEq, foldQ_inl]
        exact ⟨fun h => ⟨by rw [if_pos h], by rw [if_pos h]; exact hI.ins h⟩, fun h => ⟨by rw [if_neg h], by rw [if_neg h]; exact hI⟩⟩
      obtain ⟨i, o⟩ := c
      dsimp only at hs hc hI
      subst hs
      simp only [nlt_self, a_, b_, c_, d_, e_, f_, g_, h_, i_, j_, k_, l_, m_, n_, o_, p_, q_, r_, s_, t_, u_, v_, w_, x_, y_, z_, A_, B_, C_, D_, E_, F_, G_, H_, I_, J_, K_, L_, M_, N_, O_, P_, reduceCtorEq, stopQ_inr]
      have hc : o = insIf _ out (refsBy isDef s.2.2.2.2[k].2.2.2.2.2.1) := hc
      subst hc
      refine Wp.fold (fun s => s.1) (fun s => s.2) (refsBy isDef s.2.2.2.2[k].2.2.2.2.2.2.1) (fun o x => if 0 ≤ x ∧ x < (s.2.2.2.1.length : Int) then ins x o else o) _ (fun _ c => Srt s.2.2.2.1.length c) (by omega) rfl rfl hI (fun i c hli hs hI => ?_) fun c hs hc hI => ?_
      · obtain ⟨i, o⟩ := c
        dsimp only at hs hI
        subst hs
        have := hI.len
        simp only [if_pos (lt_dec' hli), lt_nat hli, idx_nat hli, insert16_eq o _ (by omega), wrapS (m := (refsBy isDef s.2.2.2.2[k].2.2.2.2.2.2.1).length) (by omega) hli, a_, b_, c_, d_, e_, f_, g_, h_, i_, j_, k_, l_, m_, n_, o_, p_, q_, r_, s_, t_, u_, v_, w_, x_, y_, z_, A_, B_, C_, D_, E_, F_, G_, H_, I_, J_, K_, L_, M_, N_, O_, P_, reduceCtorEq, foldQ_inl]
        exact ⟨fun h => ⟨by rw [if_pos h], by rw [if_pos h]; exact hI.ins h⟩, fun h => ⟨by rw [if_neg h], by rw [if_neg h]; exact hI⟩⟩
      obtain ⟨i, o⟩ := c
      dsimp only at hs hc hI
      subst hs
      simp only [nlt_self, a_, b_, c_, d_, e_, f_, g_, h_, i_, j_, k_, l_, m_, n_, o_, p_, q_, r_, s_, t_, u_, v_, w_, x_, y_, z_, A_, B_, C_, D_, E_, F_, G_, H_, I_, J_, K_, L_, M_, N_, O_, P_, reduceCtorEq, stopQ_inr]
      have hc : o = insIf _ _ (refsBy isDef s.2.2.2.2[k].2.2.2.2.2.2.1) := hc
      exact ⟨hc, hc ▸ hI⟩
  · obtain ⟨i, out⟩ := q
    dsimp only at hs hc
    subst hs
    simp only [nlt_self, a_, b_, c_, d_, e_, f_, g_, h_, i_, j_, k_, l_, m_, n_, o_, p_, q_, r_, s_, t_, u_, v_, w_, x_, y_, z_, A_, B_, C_, D_, E_, F_, G_, H_, I_, J_, K_, L_, M_, N_, O_, P_, reduceCtorEq, stopQ_inr]
    exact hc
/-- One round of what is reached. -/
def stepT (s : Scp) (out : List Int) : List Int := out.foldl (fun o x => (dirS s x).foldl (fun o y => ins y o) o) out
def iterT (s : Scp) : Nat → List Int → List Int
  | 0, out => out
  | n + 1, out => stepT s (iterT s n out)
def trS (s : Scp) (d : Int) : List Int := iterT s s.2.2.2.1.length (dirS s d)
theorem Srt.insAll {n : Nat} : ∀ {l out : List Int}, (∀ x ∈ l, 0 ≤ x ∧ x < (n : Int)) → Srt n out → Srt n (l.foldl (fun o y => L.ins y o) out)
  | [], _, _, h => h
  | x :: l, out, hx, h => Srt.insAll (l := l) (out := L.ins x out) (fun y hy => hx y (List.mem_cons_of_mem _ hy)) (h.ins (hx x (List.mem_cons_self ..)))
theorem stepT_srt (s : Scp) {out : List Int} (h : Srt s.2.2.2.1.length out) : Srt s.2.2.2.1.length (stepT s out) := by
  unfold stepT
  suffices ∀ (l o : List Int), Srt s.2.2.2.1.length o → Srt s.2.2.2.1.length (l.foldl (fun o x => (dirS s x).foldl (fun o y => ins y o) o) o) from this _ _ h
  intro l
  induction l with
  | nil => intro o h; exact h
  | cons x l ih => intro o h; exact ih _ (h.insAll (dirS_srt s x).2)
theorem trS_eq (s : Scp) (hs : Few s) (d : Int) : M.ref16_Transitive big s d = some (trS s d) := by
  apply Wp.eq
  unfold M.ref16_Transitive
  simp only [dirS_eq s hs, a_, b_, c_, d_, e_, f_, g_, h_, i_, j_, k_, l_, m_, n_, o_, p_, q_, r_, s_, t_, u_, v_, w_, x_, y_, z_, A_, B_, C_, D_, E_, F_, G_, H_, I_, J_, K_, L_, M_, N_, O_, P_, reduceCtorEq]
  have hn := hs.1
  refine Wp.count (fun s => s.2) s.2.2.2.1.length (fun k q => q.1 = iterT s k (dirS s d) ∧ Srt s.2.2.2.1.length q.1) (by omega) rfl ⟨rfl, dirS_srt s d⟩ fun k q hk hs' hJ => ?_
  obtain ⟨out, i⟩ := q
  dsimp only at hs' hJ
  subst hs'
  obtain ⟨hJ, hI⟩ := hJ
  have hlen := hI.len
  simp only [a_, b_, c_, d_, e_, f_, g_, h_, i_, j_, k_, l_, m_, n_, o_, p_, q_, r_, s_, t_, u_, v_, w_, x_, y_, z_, A_, B_, C_, D_, E_, F_, G_, H_, I_, J_, K_, L_, M_, N_, O_, P_, reduceCtorEq, countQ_inl, countQ_inr]
  refine ⟨fun hlt => ?_, fun hge => ?_⟩
  · have hlt : k < s.2.2.2.1.length := by omega
    refine Wp.fold (fun s => s.2) (fun s => s.1) out (fun o x => (dirS s x).foldl (fun o y => ins y o) o) out (fun _ c => Srt s.2.2.2.1.length c) (by omega) rfl rfl hI (fun j q hlj hs' hI' => ?_) fun q hs' hc hI' => ?_
    · obtain ⟨o, i⟩ := q
      dsimp only at hs' hI'
      subst hs'
      have dl := (dirS_srt s out[j]).len
      simp only [lt_nat hlj, idx_nat hlj, wrapS (m := out.length) (by omega) hlj, a_, b_, c_, d_, e_, f_, g_, h_, i_, j_, k_, l_, m_, n_, o_, p_, q_, r_, s_, t_, u_, v_, w_, x_, y_, z_, A_, B_, C_, D_, E_, F_, G_, H_, I_, J_, K_, L_, M_, N_, O_, P_, reduceCtorEq, foldQ_inl]
      refine Wp.fold (fun s => s.2) (fun s => s.1) (dirS s out[j]) (fun o y => ins y o) o (fun _ c => Srt s.2.2.2.1.length c) (by omega) rfl rfl hI' (fun i q hli hs' hI2 => ?_) fun q hs' hc hI2 => ?_
      · obtain ⟨o, i'⟩ := q
        dsimp only at hs' hI2
        subst hs'
        have := hI2.len
        simp only [lt_nat hli, idx_nat hli, insert16_eq o _ (by omega), wrapS (m := (dirS s out[j]).length) (by omega) hli, a_, b_, c_, d_, e_, f_, g_, h_, i_, j_, k_, l_, m_, n_, o_, p_, q_, r_, s_, t_, u_, v_, w_, x_, y_, z_, A_, B_, C_, D_, E_, F_, G_, H_, I_, J_, K_, L_, M_, N_, O_, P_, reduceCtorEq, foldQ_inl]
        exact hI2.ins ((dirS_srt s out[j]).2 _ (List.getElem_mem hli))
      · obtain ⟨o', i'⟩ := q
        dsimp only at hs' hc hI2
        subst hs'
        simp only [nlt_self, a_, b_, c_, d_, e_, f_, g_, h_, i_, j_, k_, l_, m_, n_, o_, p_, q_, r_, s_, t_, u_, v_, w_, x_, y_, z_, A_, B_, C_, D_, E_, F_, G_, H_, I_, J_, K_, L_, M_, N_, O_, P_, reduceCtorEq, stopQ_inr]
        exact ⟨hc, hc ▸ hI2⟩
    · obtain ⟨o, i⟩ := q
      dsimp only at hs' hc hI'
      subst hs'
      simp only [nlt_self, a_, b_, c_, d_, e_, f_, g_, h_, i_, j_, k_, l_, m_, n_, o_, p_, q_, r_, s_, t_, u_, v_, w_, x_, y_, z_, A_, B_, C_, D_, E_, F_, G_, H_, I_, J_, K_, L_, M_, N_, O_, P_, reduceCtorEq, stopQ_inr]
      exact ⟨hlt, wrapS (m := s.2.2.2.1.length) (by omega) hlt, by rw [hc, hJ]; rfl, hI'⟩
  · obtain rfl : k = s.2.2.2.1.length := by omega
    exact hJ
end L
end Go.Proofs.YtjeeligfdpociaaGreat
