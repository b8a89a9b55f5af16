/- Operations come to an end: money, rates, dates (plain laws). -/
import Derived.Test.YtpgggmcpflgniaaDoorPV
namespace Go.Proofs.YtpgggmcpflgniaaDoor
open Go Go.RowKit
set_option maxRecDepth 100000
namespace L

theorem u64_id {n : Int} (h0 : 0 ≤ n) (h1 : n < 18446744073709551616) : IntKind.u64.wrap n = n := by
  simp [IntKind.wrap, IntKind.bits, IntKind.signed]
  omega
theorem u64_mod (n : Int) : IntKind.u64.wrap n = n % 18446744073709551616 := by
  simp [IntKind.wrap, IntKind.bits, IntKind.signed]
theorem u64_rng (n : Int) : 0 ≤ IntKind.u64.wrap n ∧ IntKind.u64.wrap n < 18446744073709551616 := by rw [u64_mod]; omega
theorem i64_rng (n : Int) : -9223372036854775808 ≤ IntKind.i64.wrap n ∧ IntKind.i64.wrap n ≤ 9223372036854775807 := by
  simp [IntKind.wrap, IntKind.bits, IntKind.signed]
  omega

/-! ## Lengths in bits -/
theorem shr32 (a : Int) : shrV .u64 a 32 = a / 4294967296 := by
  unfold shrV
  rw [show min (32 : Int).toNat IntKind.u64.bits = 32 from rfl]
  exact Int.fdiv_eq_ediv_of_nonneg _ (by decide)
theorem shr16 (a : Int) : shrV .u64 a 16 = a / 65536 := by
  unfold shrV
  rw [show min (16 : Int).toNat IntKind.u64.bits = 16 from rfl]
  exact Int.fdiv_eq_ediv_of_nonneg _ (by decide)
theorem shr8 (a : Int) : shrV .u64 a 8 = a / 256 := by
  unfold shrV
  rw [show min (8 : Int).toNat IntKind.u64.bits = 8 from rfl]
  exact Int.fdiv_eq_ediv_of_nonneg _ (by decide)
def lenTab : ByteArray := (⟨#[0, 1, 2, 2, 3, 3, 3, 3, 4, 4, 4, 4, 4, 4, 4, 4, 5, 5, 5, 5, 5, 5, 5, 5, 5, 5, 5, 5, 5, 5, 5, 5, 6, 6, 6, 6, 6, 6, 6, 6, 6, 6, 6, 6, 6, 6, 6, 6, 6, 6, 6, 6, 6, 6, 6, 6, 6, 6, 6, 6, 6, 6, 6, 6, 7, 7, 7, 7, 7, 7, 7, 7, 7, 7, 7, 7, 7, 7, 7, 7, 7, 7, 7, 7, 7, 7, 7, 7, 7, 7, 7, 7, 7, 7, 7, 7, 7, 7, 7, 7, 7, 7, 7, 7, 7, 7, 7, 7, 7, 7, 7, 7, 7, 7, 7, 7, 7, 7, 7, 7, 7, 7, 7, 7, 7, 7, 7, 7, 8, 8, 8, 8, 8, 8, 8, 8, 8, 8, 8, 8, 8, 8, 8, 8, 8, 8, 8, 8, 8, 8, 8, 8, 8, 8, 8, 8, 8, 8, 8, 8, 8, 8, 8, 8, 8, 8, 8, 8, 8, 8, 8, 8, 8, 8, 8, 8, 8, 8, 8, 8, 8, 8, 8, 8, 8, 8, 8, 8, 8, 8, 8, 8, 8, 8, 8, 8, 8, 8, 8, 8, 8, 8, 8, 8, 8, 8, 8, 8, 8, 8, 8, 8, 8, 8, 8, 8, 8, 8, 8, 8, 8, 8, 8, 8, 8, 8, 8, 8, 8, 8, 8, 8, 8, 8, 8, 8, 8, 8, 8, 8, 8, 8, 8, 8, 8, 8, 8, 8, 8, 8, 8, 8, 8, 8, 8, 8]⟩ : ByteArray)
def tabOK (n : Nat) : Bool := match byteA lenTab n with
  | some k => decide (0 ≤ k) && decide (k ≤ 8) && decide (n < 2 ^ k.toNat) && (Nat.beq n 0 || (decide (1 ≤ k) && decide (2 ^ (k.toNat - 1) ≤ n)))
  | none => false
theorem tab_all : (List.range 256).all tabOK = true := by kernel_rfl
theorem tab_ok {n : Nat} (h : n < 256) : ∃ k : Nat, byteA lenTab n = some (k : Int) ∧ k ≤ 8 ∧ n < 2 ^ k ∧ (n ≠ 0 → 1 ≤ k ∧ 2 ^ (k - 1) ≤ n) := by
  have := List.all_eq_true.1 tab_all n (List.mem_range.2 h)
  unfold tabOK at this
  split at this
  case h_2 => cases this
  rename_i k hk
  simp only [Bool.and_eq_true, Bool.or_eq_true, decide_eq_true_eq, Nat.beq_eq] at this
  obtain ⟨⟨⟨h1, h2⟩, h3⟩, h4⟩ := this
  refine ⟨k.toNat, by rw [hk, Int.toNat_of_nonneg h1], by omega, h3, fun hn => ?_⟩
  rcases h4 with h4 | h4
  · exact absurd h4 hn
  · exact ⟨by omega, h4.2⟩
theorem len_up {m b k : Nat} (h : m / 2 ^ b < 2 ^ k) : m < 2 ^ (b + k) := by
  rw [Nat.div_lt_iff_lt_mul (Nat.two_pow_pos b)] at h
  rw [Nat.pow_add, Nat.mul_comm]
  exact h
theorem len_lo {m b k : Nat} (hk : 1 ≤ k) (h : 2 ^ (k - 1) ≤ m / 2 ^ b) : 2 ^ (b + k - 1) ≤ m := by
  rw [Nat.le_div_iff_mul_le (Nat.two_pow_pos b)] at h
  rw [show b + k - 1 = k - 1 + b by omega, Nat.pow_add]
  exact h
theorem Len64_eq {N m : Nat} (hm : m < 18446744073709551616) : ∃ L : Nat, M.math_bits_Len64 N m = some (L : Int) ∧ L ≤ 64 ∧ m < 2 ^ L ∧ (m ≠ 0 → 1 ≤ L ∧ 2 ^ (L - 1) ≤ m) := by
  have fin : ∀ (b q : Nat) (w : Int), q = m / 2 ^ b → w = b → b ≤ 56 → q < 256 → (m ≠ 0 → q ≠ 0) → ∃ L : Nat, ((byteA lenTab (IntKind.u8.wrap (q : Int))).bind fun x4 => some (IntKind.i64.wrap (w + IntKind.i64.wrap x4))) = some (L : Int) ∧ L ≤ 64 ∧ m < 2 ^ L ∧ (m ≠ 0 → 1 ≤ L ∧ 2 ^ (L - 1) ≤ m) := by
    intro b q w hq hw hb h1 h2
    subst hq; subst hw
    obtain ⟨k, g1, g2, g3, g4⟩ := tab_ok h1
    have hu : IntKind.u8.wrap ((m / 2 ^ b : Nat) : Int) = ((m / 2 ^ b : Nat) : Int) := by
      simp only [IntKind.wrap, IntKind.bits, IntKind.signed]
      generalize m / 2 ^ b = q at h1 ⊢
      simp
      omega
    refine ⟨b + k, ?_, by omega, len_up g3, fun hne => ?_⟩
    · rw [hu, g1, Option.bind_some, wrap_nat (by omega), ← Int.natCast_add, wrap_nat (by omega)]
    · obtain ⟨g5, g6⟩ := g4 (h2 hne)
      exact ⟨by omega, len_lo g5 g6⟩
  have e32 : ((m : Int) / 4294967296) = ((m / 2 ^ 32 : Nat) : Int) := by rw [show (2 ^ 32 : Nat) = 4294967296 from rfl]; omega
  have d48 : m / 2 ^ 32 / 2 ^ 16 = m / 2 ^ 48 := by rw [Nat.div_div_eq_div_mul, ← Nat.pow_add]
  have d40 : m / 2 ^ 32 / 2 ^ 8 = m / 2 ^ 40 := by rw [Nat.div_div_eq_div_mul, ← Nat.pow_add]
  have d56 : m / 2 ^ 48 / 2 ^ 8 = m / 2 ^ 56 := by rw [Nat.div_div_eq_div_mul, ← Nat.pow_add]
  have d24 : m / 2 ^ 16 / 2 ^ 8 = m / 2 ^ 24 := by rw [Nat.div_div_eq_div_mul, ← Nat.pow_add]
  have c16 : ∀ q : Nat, ((q : Int) / 65536) = ((q / 2 ^ 16 : Nat) : Int) := fun q => by rw [show (2 ^ 16 : Nat) = 65536 from rfl]; omega
  have c8 : ∀ q : Nat, ((q : Int) / 256) = ((q / 2 ^ 8 : Nat) : Int) := fun q => by rw [show (2 ^ 8 : Nat) = 256 from rfl]; omega
  unfold M.math_bits_Len64
  rw [show (⟨#[0, 1, 2, 2, 3, 3, 3, 3, 4, 4, 4, 4, 4, 4, 4, 4, 5, 5, 5, 5, 5, 5, 5, 5, 5, 5, 5, 5, 5, 5, 5, 5, 6, 6, 6, 6, 6, 6, 6, 6, 6, 6, 6, 6, 6, 6, 6, 6, 6, 6, 6, 6, 6, 6, 6, 6, 6, 6, 6, 6, 6, 6, 6, 6, 7, 7, 7, 7, 7, 7, 7, 7, 7, 7, 7, 7, 7, 7, 7, 7, 7, 7, 7, 7, 7, 7, 7, 7, 7, 7, 7, 7, 7, 7, 7, 7, 7, 7, 7, 7, 7, 7, 7, 7, 7, 7, 7, 7, 7, 7, 7, 7, 7, 7, 7, 7, 7, 7, 7, 7, 7, 7, 7, 7, 7, 7, 7, 7, 8, 8, 8, 8, 8, 8, 8, 8, 8, 8, 8, 8, 8, 8, 8, 8, 8, 8, 8, 8, 8, 8, 8, 8, 8, 8, 8, 8, 8, 8, 8, 8, 8, 8, 8, 8, 8, 8, 8, 8, 8, 8, 8, 8, 8, 8, 8, 8, 8, 8, 8, 8, 8, 8, 8, 8, 8, 8, 8, 8, 8, 8, 8, 8, 8, 8, 8, 8, 8, 8, 8, 8, 8, 8, 8, 8, 8, 8, 8, 8, 8, 8, 8, 8, 8, 8, 8, 8, 8, 8, 8, 8, 8, 8, 8, 8, 8, 8, 8, 8, 8, 8, 8, 8, 8, 8, 8, 8, 8, 8, 8, 8, 8, 8, 8, 8, 8, 8, 8, 8, 8, 8, 8, 8, 8, 8, 8, 8]⟩ : ByteArray) = lenTab from rfl]
  simp only [shr32, shr16, shr8, e32, c16, c8]
  by_cases h1 : 4294967296 ≤ m
  · have a1 : decide ((4294967296 : Int) ≤ (m : Int)) = true := by simp; omega
    simp only [a1, if_true, Option.bind_some, c16, d48]
    by_cases h2 : 65536 ≤ m / 2 ^ 32
    · have a2 : decide ((65536 : Int) ≤ ((m / 2 ^ 32 : Nat) : Int)) = true := by simp; omega
      simp only [a2, if_true, Option.bind_some, c8, d56]
      by_cases h3 : 256 ≤ m / 2 ^ 48
      · have a3 : decide ((256 : Int) ≤ ((m / 2 ^ 48 : Nat) : Int)) = true := by simp; omega
        simp only [a3, if_true, Option.bind_some]
        exact fin 56 _ _ rfl (by kernel_rfl) (by omega) (by omega) (by omega)
      · have a3 : decide ((256 : Int) ≤ ((m / 2 ^ 48 : Nat) : Int)) = false := by simp; omega
        simp only [a3, Bool.false_eq_true, if_false, Option.bind_some]
        exact fin 48 _ _ rfl (by kernel_rfl) (by omega) (by omega) (by omega)
    · have a2 : decide ((65536 : Int) ≤ ((m / 2 ^ 32 : Nat) : Int)) = false := by simp; omega
      simp only [a2, Bool.false_eq_true, if_false, Option.bind_some, c8, d40]
      by_cases h3 : 256 ≤ m / 2 ^ 32
      · have a3 : decide ((256 : Int) ≤ ((m / 2 ^ 32 : Nat) : Int)) = true := by simp; omega
        simp only [a3, if_true, Option.bind_some]
        exact fin 40 _ _ rfl (by kernel_rfl) (by omega) (by omega) (by omega)
      · have a3 : decide ((256 : Int) ≤ ((m / 2 ^ 32 : Nat) : Int)) = false := by simp; omega
        simp only [a3, Bool.false_eq_true, if_false, Option.bind_some]
        exact fin 32 _ _ rfl (by kernel_rfl) (by omega) (by omega) (by omega)
  · have a1 : decide ((4294967296 : Int) ≤ (m : Int)) = false := by simp; omega
    simp only [a1, Bool.false_eq_true, if_false, Option.bind_some, c16]
    by_cases h2 : 65536 ≤ m
    · have a2 : decide ((65536 : Int) ≤ (m : Int)) = true := by simp; omega
      simp only [a2, if_true, Option.bind_some, c8, d24]
      by_cases h3 : 256 ≤ m / 2 ^ 16
      · have a3 : decide ((256 : Int) ≤ ((m / 2 ^ 16 : Nat) : Int)) = true := by simp; omega
        simp only [a3, if_true, Option.bind_some]
        exact fin 24 _ _ rfl (by kernel_rfl) (by omega) (by omega) (by omega)
      · have a3 : decide ((256 : Int) ≤ ((m / 2 ^ 16 : Nat) : Int)) = false := by simp; omega
        simp only [a3, Bool.false_eq_true, if_false, Option.bind_some]
        exact fin 16 _ _ rfl (by kernel_rfl) (by omega) (by omega) (by omega)
    · have a2 : decide ((65536 : Int) ≤ (m : Int)) = false := by simp; omega
      simp only [a2, Bool.false_eq_true, if_false, Option.bind_some, c8]
      by_cases h3 : 256 ≤ m
      · have a3 : decide ((256 : Int) ≤ (m : Int)) = true := by simp; omega
        simp only [a3, if_true, Option.bind_some]
        exact fin 8 _ _ rfl (by kernel_rfl) (by omega) (by omega) (by omega)
      · have a3 : decide ((256 : Int) ≤ (m : Int)) = false := by simp; omega
        simp only [a3, Bool.false_eq_true, if_false, Option.bind_some]
        exact fin 0 m _ (by simp) (by kernel_rfl) (by omega) (by omega) (fun h => h)

theorem meas (rh : Int) (h : 0 ≤ rh) : (if rh < 4294967296 then (4294967296 - rh).toNat else 4294967297) < big := by
  unfold big
  split <;> omega

/-- Division of two words by one comes to an end. -/
theorem Div64_tot {hi lo y : Int} (h0 : 0 ≤ hi) (h1 : hi < y) (h2 : y < 18446744073709551616) : ∃ r, M.math_bits_Div64 big hi lo y = some r := by
  have key : Wp (M.math_bits_Div64 big hi lo y) fun _ => True := by
    unfold M.math_bits_Div64
    rw [if_neg (by simp; omega), if_neg (by simp; omega)]
    refine Wp.dec (fun _ => ?_) fun hne => ?_
    · unfold quoA remA
      rw [if_neg (by omega), if_neg (by omega)]
      exact .some trivial
    · obtain ⟨m, rfl⟩ : ∃ m : Nat, y = m := ⟨y.toNat, by omega⟩
      obtain ⟨L, g1, g2, g3, g4⟩ := Len64_eq (N := big) (m := m) (by omega)
      obtain ⟨g4, g5⟩ := g4 (by omega)
      unfold M.math_bits_LeadingZeros64
      rw [g1]
      have hL : IntKind.u64.wrap (IntKind.i64.wrap ((64 : Int) - (L : Int))) = ((64 - L : Nat) : Int) := by
        rw [wrap_id (by omega) (by omega), u64_id (by omega) (by omega)]; omega
      have hL2 : IntKind.u64.wrap ((64 : Int) - ((64 - L : Nat) : Int)) = (L : Int) := by rw [u64_id (by omega) (by omega)]; omega
      simp only [Option.bind_some, hL, hL2]
      have hsl : ∀ a : Int, shlA .u64 a ((64 - L : Nat) : Int) = some (shlV .u64 a ((64 - L : Nat) : Int)) := fun a => if_neg (by omega)
      have hsr : ∀ a : Int, shrA .u64 a (L : Int) = some (shrV .u64 a (L : Int)) := fun a => if_neg (by omega)
      have hsr2 : ∀ a : Int, shrA .u64 a ((64 - L : Nat) : Int) = some (shrV .u64 a ((64 - L : Nat) : Int)) := fun a => if_neg (by omega)
      simp only [hsl, hsr, hsr2, Option.bind_some, shr32]
      have hy : 9223372036854775808 ≤ shlV .u64 (m : Int) ((64 - L : Nat) : Int) ∧ shlV .u64 (m : Int) ((64 - L : Nat) : Int) < 18446744073709551616 := by
        unfold shlV
        rw [show min (((64 - L : Nat) : Int).toNat) IntKind.u64.bits = 64 - L by simp [IntKind.bits]]
        have e1 : m * 2 ^ (64 - L) < 2 ^ 64 := by
          calc m * 2 ^ (64 - L) < 2 ^ L * 2 ^ (64 - L) := Nat.mul_lt_mul_of_pos_right g3 (Nat.two_pow_pos _)
            _ = 2 ^ 64 := by rw [← Nat.pow_add]; congr 1; omega
        have e2 : 2 ^ 63 ≤ m * 2 ^ (64 - L) := by
          calc 2 ^ 63 = 2 ^ (L - 1) * 2 ^ (64 - L) := by rw [← Nat.pow_add]; congr 1; omega
            _ ≤ m * 2 ^ (64 - L) := Nat.mul_le_mul_right _ g5
        have e3 : ((m : Int) * 2 ^ (64 - L)) = ((m * 2 ^ (64 - L) : Nat) : Int) := by simp
        rw [e3, u64_id (by omega) (by omega)]
        omega
      generalize shlV .u64 (m : Int) ((64 - L : Nat) : Int) = x4 at hy ⊢
      have hyn : 0 < x4 / 4294967296 ∧ x4 / 4294967296 < 4294967296 := by omega
      generalize x4 / 4294967296 = yn at hyn ⊢
      have quo : ∀ a : Int, quoA a yn = some (Int.tdiv a yn) := fun a => if_neg (by omega)
      simp only [quo, Option.bind_some]
      have inv : ∀ rh : Int, 0 ≤ rh → rh < 18446744073709551616 → ¬ 4294967296 ≤ IntKind.u64.wrap (rh + yn) → (if IntKind.u64.wrap (rh + yn) < 4294967296 then (4294967296 - IntKind.u64.wrap (rh + yn)).toNat else 4294967297) < (if rh < 4294967296 then (4294967296 - rh).toNat else 4294967297) := by
        intro rh i1 i2 hc
        rw [if_pos (by omega)]
        by_cases hr : rh < 4294967296
        · rw [if_pos hr]
          have : IntKind.u64.wrap (rh + yn) = rh + yn := u64_id (by omega) (by omega)
          rw [this] at hc ⊢
          omega
        · rw [if_neg hr]
          have := u64_rng (rh + yn)
          omega
      simp only [ite_some, or_b, Option.bind_some]
      refine Wp.seq (fun _ => True) (Wp.seq (fun _ => True) (Wp.loop (fun s : Int × Int => 0 ≤ s.2 ∧ s.2 < 18446744073709551616) (fun s => if s.2 < 4294967296 then (4294967296 - s.2).toNat else 4294967297) (u64_rng _) (meas _ (u64_rng _).1) ?_) fun _ _ => .some trivial) fun j9 _ => ?_
      · rintro ⟨q, rh⟩ ⟨i1, i2⟩
        refine .some ?_
        split
        · split
          · trivial
          · rename_i hc
            exact ⟨u64_rng _, inv rh i1 i2 (by simpa using hc)⟩
        · trivial
      refine Wp.seq (fun _ => True) (Wp.seq (fun _ => True) (Wp.loop (fun s : Int × Int => 0 ≤ s.1 ∧ s.1 < 18446744073709551616) (fun s => if s.1 < 4294967296 then (4294967296 - s.1).toNat else 4294967297) (u64_rng _) (meas _ (u64_rng _).1) ?_) fun _ _ => .some trivial) fun j14 _ => .some trivial
      · rintro ⟨rh, q⟩ ⟨i1, i2⟩
        refine .some ?_
        split
        · split
          · trivial
          · rename_i hc
            exact ⟨u64_rng _, inv rh i1 i2 (by simpa using hc)⟩
        · trivial
  obtain ⟨x, hx, _⟩ := key
  exact ⟨x, hx⟩

/-! ## Money -/
theorem validMode_eq (N : Nat) (m : Int) : M.money_validMode N m = some (decide (0 ≤ m) && decide (m ≤ 5)) := by
  unfold M.money_validMode
  simp only [ite_some, Option.bind_some, and_b]
theorem beyond_eq (N : Nat) (n l : Int) : M.money_beyond N n l = some (decide (l < n) || decide (n < IntKind.i64.wrap (0 - l))) := by
  unfold M.money_beyond
  simp only [ite_some, Option.bind_some, or_b]
theorem magnitude_eq (N : Nat) {n : Int} (h : -4611686018427387904 ≤ n ∧ n ≤ 4611686018427387904) : M.money_magnitude N n = some (if n < 0 then -n else n) := by
  unfold M.money_magnitude
  simp only [ite_some]
  refine congrArg some ?_
  by_cases hn : n < 0
  · rw [if_pos (by simpa using hn), if_pos hn, u64_mod n, u64_mod]
    omega
  · rw [if_neg (by simpa using hn), if_neg hn, u64_id (by omega) (by omega)]
end L
end Go.Proofs.YtpgggmcpflgniaaDoor
