/- Plain mathematics of two-word division by one word, in Lean's own integers. -/
namespace Go.Proofs.WPlain

theorem div_eq_of {n d q : Int} (hd : 0 < d) (h1 : q * d ≤ n) (h2 : n < (q + 1) * d) : n / d = q := by
  have a := Int.le_ediv_of_mul_le hd h1
  have b := Int.ediv_lt_of_lt_mul hd h2
  omega

/-- One digit of the quotient: what the loop's test tells. M: the base. T = un * M + u1. -/
theorem test_iff {M un u1 y d1 d0 q r : Int} (hy : y = d1 * M + d0) (hr : r = un - q * d1) :
    (q * d0 > M * r + u1) ↔ (q * y > un * M + u1) := by
  subst hy hr
  have e : q * (d1 * M + d0) = q * d1 * M + q * d0 := by rw [Int.mul_add, Int.mul_assoc]
  have e2 : M * (un - q * d1) = un * M - q * d1 * M := by rw [Int.mul_sub, Int.mul_comm M un, Int.mul_comm M (q * d1)]
  rw [e, e2]; omega

theorem digit_le {M un u1 y d1 d0 q : Int} (hM : 0 < M) (hy : y = d1 * M + d0) (hd1 : 0 < d1) (h0 : 0 ≤ d0) (hun : 0 ≤ un)
    (hu1' : u1 < M) (hq : q = un / d1) : (un * M + u1) / y ≤ q := by
  have hypos : 0 < y := by
    have : 0 < d1 * M := Int.mul_pos hd1 hM
    omega
  have h : un < (q + 1) * d1 := by subst hq; exact Int.lt_ediv_add_one_mul_self un hd1
  have h' : un + 1 ≤ (q + 1) * d1 := by omega
  have h2 : (un + 1) * M ≤ (q + 1) * d1 * M := Int.mul_le_mul_of_nonneg_right h' (by omega)
  have hq0 : 0 ≤ q := by subst hq; exact Int.ediv_nonneg hun (by omega)
  have h3 : (q + 1) * d1 * M ≤ (q + 1) * y := by
    rw [Int.mul_assoc]; exact Int.mul_le_mul_of_nonneg_left (by omega) (by omega)
  have h4 : un * M + u1 < (q + 1) * y := by
    have : (un + 1) * M = un * M + M := by rw [Int.add_mul]; omega
    omega
  have := Int.ediv_lt_of_lt_mul hypos h4
  omega

theorem first_guess {M un y d1 d0 q : Int} (hM : 0 < M) (hy : y = d1 * M + d0) (hd1 : M ≤ 2 * d1) (h0' : d0 < M) (hun : 0 ≤ un)
    (hlt : un < y) (hq : q = un / d1) : 0 ≤ q ∧ q ≤ M + 1 ∧ 0 ≤ un - q * d1 ∧ un - q * d1 < d1 := by
  have hd : 0 < d1 := by omega
  have a := Int.emod_add_mul_ediv un d1
  have b := Int.emod_nonneg un (show d1 ≠ 0 by omega)
  have c := Int.emod_lt_of_pos un hd
  have e : d1 * (un / d1) = q * d1 := by rw [hq, Int.mul_comm]
  refine ⟨by subst hq; exact Int.ediv_nonneg hun (by omega), ?_, by omega, by omega⟩
  have : un < (M + 2) * d1 := by
    have : (M + 2) * d1 = d1 * M + 2 * d1 := by rw [Int.add_mul, Int.mul_comm M d1]
    omega
  have := Int.ediv_lt_of_lt_mul hd this
  omega

theorem guess_hi {M un y q T u1 : Int} (hM : 0 < M) (hy : 0 < y) (hlt : un < y) (hu1' : u1 < M) (hT : T = un * M + u1) (hq : M ≤ q) : T / y < q := by
  have : T < M * y := by
    have h : (un + 1) * M ≤ y * M := Int.mul_le_mul_of_nonneg_right (by omega) (by omega)
    have e : (un + 1) * M = un * M + M := by rw [Int.add_mul]; omega
    have e2 : y * M = M * y := Int.mul_comm _ _
    omega
  have := Int.ediv_lt_of_lt_mul hy this
  omega

theorem guess_dec {T y q : Int} (hy : 0 < y) (h : q * y > T) : T / y ≤ q - 1 := by
  have := Int.ediv_lt_of_lt_mul hy h
  omega

theorem guess_done {T y q : Int} (hy : 0 < y) (h : ¬ q * y > T) (hle : T / y ≤ q) : q = T / y := by
  have := Int.le_ediv_of_mul_le hy (show q * y ≤ T by omega)
  omega

/-- At the break: the guess is no greater than the base, and what is left is at least the base. -/
theorem guess_break {M un u1 y d1 d0 q r : Int} (hM : 0 < M) (hy : y = d1 * M + d0) (hypos : 0 < y) (h0' : d0 < M) (h0 : 0 ≤ d0) (hu1 : 0 ≤ u1)
    (hr : r = un - q * d1) (hq : q ≤ M) (hM2 : M ≤ r) (hle : (un * M + u1) / y ≤ q) : q = (un * M + u1) / y := by
  refine guess_done hypos (fun h => ?_) hle
  have := (test_iff (M := M) (u1 := u1) hy hr).2 h
  have h1 : q * d0 ≤ M * d0 := Int.mul_le_mul_of_nonneg_right hq h0
  have h2 : M * d0 ≤ M * r := Int.mul_le_mul_of_nonneg_left (by omega) (by omega)
  omega


theorem sub_mul' (a b c : Int) : (a - b) * c = a * c - b * c := Int.sub_mul a b c

/-- Two digits, put together: P is the power of two by which both were moved. -/
theorem two_digits {y P Y M N U L1 L0 q1 U1 q0 R : Int} (hP : 0 < P) (hy : 0 < y) (hY : Y = y * P) (hN : N * P = U * M * M + L1 * M + L0)
    (h1 : U1 = U * M + L1 - q1 * Y) (h2 : R = U1 * M + L0 - q0 * Y) (r0 : 0 ≤ R) (r1 : R < Y) : q1 * M + q0 = N / y ∧ R / P = N % y := by
  have e : R = (N - (q1 * M + q0) * y) * P := by
    subst h2 h1 hY
    have e1 : (N - (q1 * M + q0) * y) * P = U * M * M + L1 * M + L0 - (q1 * M * (y * P) + q0 * (y * P)) := by
      rw [Int.sub_mul N, hN, Int.mul_assoc (q1 * M + q0) y P, Int.add_mul (q1 * M)]
    have e2 : (U * M + L1 - q1 * (y * P)) * M = U * M * M + L1 * M - q1 * M * (y * P) := by
      rw [Int.sub_mul, Int.add_mul, Int.mul_right_comm q1]
    rw [e1, e2]; omega
  have hd : R / P = N - (q1 * M + q0) * y := by rw [e]; exact Int.mul_ediv_cancel _ (by omega)
  have g0 : 0 ≤ N - (q1 * M + q0) * y := by rw [← hd]; exact Int.ediv_nonneg r0 (by omega)
  have g1 : N - (q1 * M + q0) * y < y := by
    rw [← hd]; exact Int.ediv_lt_of_lt_mul hP (by rw [← hY]; exact r1)
  have hq : N / y = q1 * M + q0 := div_eq_of hy (by omega) (by rw [Int.add_mul]; omega)
  refine ⟨hq.symm, ?_⟩
  have := Int.emod_add_mul_ediv N y
  rw [hd, ← hq, Int.mul_comm (N / y) y]; omega

theorem shift_lo {lo : Int} {s t : Nat} (hst : (2 : Int) ^ s * 2 ^ t = 18446744073709551616) :
    lo * 2 ^ s = lo / 2 ^ t * 18446744073709551616 + (lo * 2 ^ s) % 18446744073709551616 := by
  have hs : (0 : Int) < 2 ^ s := Int.pow_pos (by decide)
  have h : lo * 2 ^ s / 18446744073709551616 = lo / 2 ^ t := by
    rw [← hst, Int.mul_comm lo]
    exact Int.mul_ediv_mul_of_pos _ _ hs
  have := Int.emod_add_mul_ediv (lo * 2 ^ s) 18446744073709551616
  rw [h] at this
  omega

theorem pow_split (s : Nat) (h : s ≤ 64) : (2 : Int) ^ s * 2 ^ (64 - s) = 18446744073709551616 := by
  rw [← Int.pow_add, show s + (64 - s) = 64 by omega]; rfl

end Go.Proofs.WPlain
