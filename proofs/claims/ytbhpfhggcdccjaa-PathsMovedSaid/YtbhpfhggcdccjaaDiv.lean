/- Two words divided by one (the library's own function), as a contract. No condition but that the quotient fits one word. -/
import Derived.WalkKit
import Derived.WalkSpells
import Derived.WalkLawsBesides
import Derived.Deep.QuietTactic
import Derived.BigQuiet
import Derived.Outline
import Derived.Deep.DeepCutAuto
import Derived.Deep.CutBlock
import Derived.WalkSmall
import Derived.Lib.Hide
import Derived.Lib.ItoaNum
import Derived.Laws.Bits64b
import Derived.Test.YtbhpfhggcdccjaaProg
import Derived.Test.YtbhpfhggcdccjaaShelf
import Derived.Test.YtbhpfhggcdccjaaPlain
namespace Go.Proofs.Ytbhpfhggcdccjaa
open Go.RowKit Go.Proofs.WPlain

theorem ret_ii {k k' : IntKind} {a b c d : Int} (h1 : a = c) (h2 : b = d) : Ending.returned (.tuple #[.int k a, .int k' b]) = .returned (.tuple #[.int k c, .int k' d]) := by rw [h1, h2]

theorem mask32 (a : Int) (h0 : 0 ≤ a) (h1 : a < 18446744073709551616) : bits .and .u64 a 4294967295 = a % 4294967296 := by
  obtain ⟨n, rfl⟩ : ∃ n : Nat, a = n := ⟨a.toNat, by omega⟩
  have h := bits_and_u64_nat n 4294967295 (by omega) (by omega)
  have e : n &&& 4294967295 = n % 4294967296 := Nat.and_two_pow_sub_one_eq_mod n 32
  rw [e] at h
  rw [show (4294967295 : Int) = ((4294967295 : Nat) : Int) from rfl, h]; omega

theorem or_add (a b : Int) (s : Nat) (a0 : 0 ≤ a) (b0 : 0 ≤ b) (hb : b < 2 ^ s) (ha : a * 2 ^ s < 18446744073709551616) (hb' : b < 18446744073709551616) :
    bits .or .u64 (a * 2 ^ s) b = a * 2 ^ s + b := by
  obtain ⟨m, rfl⟩ : ∃ n : Nat, a = n := ⟨a.toNat, by omega⟩
  obtain ⟨n, rfl⟩ : ∃ n : Nat, b = n := ⟨b.toNat, by omega⟩
  have e : ((m : Int) * 2 ^ s) = ((m * 2 ^ s : Nat) : Int) := by simp
  rw [e] at ha ⊢
  rw [bits_or_u64_nat _ _ (by omega) (by omega)]
  have hn : n < 2 ^ s := by
    have : ((n : Int) < ((2 ^ s : Nat) : Int)) := by simpa using hb
    omega
  rw [← Nat.shiftLeft_eq, ← Nat.shiftLeft_add_eq_or_of_lt hn]; omega

/-- How far a number is moved up, till its highest bit is set. -/
theorem lz_spec (y : Int) (y0 : 0 < y) (y1 : y < 18446744073709551616) :
    ∃ s : Nat, s ≤ 63 ∧ 64 - (Lib.bitLen y.toNat : Int) = s ∧ 9223372036854775808 ≤ y * 2 ^ s ∧ y * 2 ^ s < 18446744073709551616 := by
  have hb := Lib.bitLenAux_bounds 64 y.toNat (by omega) (by omega)
  have hl : Lib.bitLen y.toNat = Lib.bitLenAux 64 y.toNat := rfl
  rw [← hl] at hb
  obtain ⟨b1, b2, b3⟩ := hb
  have hle : Lib.bitLen y.toNat ≤ 64 := Lib.bitLen_le _ 64 (Nat.le_refl _) (by omega)
  generalize Lib.bitLen y.toNat = n at *
  obtain ⟨m, rfl⟩ : ∃ m : Nat, y = m := ⟨y.toNat, by omega⟩
  refine ⟨64 - n, by omega, by omega, ?_⟩
  simp only [Int.toNat_natCast] at b2 b3
  have c2 : 2 ^ (n - 1) * 2 ^ (64 - n) ≤ m * 2 ^ (64 - n) := Nat.mul_le_mul_right _ b2
  have c3 : m * 2 ^ (64 - n) < 2 ^ n * 2 ^ (64 - n) := Nat.mul_lt_mul_of_pos_right b3 (Nat.pow_pos (by decide))
  rw [← Nat.pow_add] at c2 c3
  rw [show n - 1 + (64 - n) = 63 by omega] at c2
  rw [show n + (64 - n) = 64 by omega] at c3
  have e : ((m : Int) * 2 ^ (64 - n)) = ((m * 2 ^ (64 - n) : Nat) : Int) := by simp
  rw [e]
  exact ⟨by omega, by omega⟩

set_option maxHeartbeats 1000000 in
theorem div64_zero (lo y : Int) (w : World) (l0 : 0 ≤ lo) (l1 : lo ≤ 18446744073709551615) (y0 : 0 < y) (y1 : y ≤ 18446744073709551615) :
    Calls Try.prog 37 #[.int .u64 0, .int .u64 lo, .int .u64 y] w fun e w' => e = .returned (.tuple #[.int .u64 (lo / y), .int .u64 (lo % y)]) ∧ Below w.heap.size w w' := by
  have hz : (y == 0) = false := by simp; omega
  have hz' : ¬ y = 0 := by omega
  go_enter Try.func37, Try.ntmps37
  go_wp2
  go_quiet (fail)
  go_wp2
  go_ret2
  exact ⟨rfl, below_drewN (Below.refl _ _) _⟩

/-- What the loop of one digit keeps: the guess is not below the digit, and no greater than the base and one. -/
def Guess (U1 Y1 T Y q r : Int) : Prop := r = U1 - q * Y1 ∧ 0 ≤ r ∧ r < 4294967296 ∧ 0 ≤ q ∧ q ≤ 4294967297 ∧ T / Y ≤ q

/-- The test says no: the guess is the digit. -/
theorem Guess.done {U d1 d0 k1 Y q r : Int} (h : Guess U d1 (U * 4294967296 + k1) Y q r) (hY : Y = d1 * 4294967296 + d0) (hp : 0 < Y)
    (ht : ¬ 4294967296 * r + k1 < q * d0) : (U * 4294967296 + k1) / Y = q := by
  obtain ⟨h1, h2, h3, h4, h5, h6⟩ := h
  exact (guess_done hp (fun g => ht ((test_iff (M := 4294967296) (u1 := k1) hY h1).2 g)) h6).symm

/-- The test says yes: one less. -/
theorem Guess.dec {U d1 d0 k1 Y q r : Int} (h : Guess U d1 (U * 4294967296 + k1) Y q r) (hY : Y = d1 * 4294967296 + d0) (hp : 0 < Y) (hU : U < Y) (hk : k1 < 4294967296) (hU0 : 0 ≤ U) (hk0 : 0 ≤ k1)
    (ht : 4294967296 ≤ q ∨ 4294967296 * r + k1 < q * d0) : 1 ≤ q ∧ q ≤ 4294967297 ∧ (U * 4294967296 + k1) / Y ≤ q - 1 := by
  obtain ⟨h1, h2, h3, h4, h5, h6⟩ := h
  have hlt : (U * 4294967296 + k1) / Y < q := by
    rcases ht with ht | ht
    · exact guess_hi (M := 4294967296) (by omega) hp hU hk rfl ht
    · have := guess_dec hp ((test_iff (M := 4294967296) (u1 := k1) hY h1).1 ht)
      omega
  have h0 : 0 ≤ (U * 4294967296 + k1) / Y := Int.ediv_nonneg (by omega) (by omega)
  exact ⟨by omega, h5, by omega⟩

theorem Guess.next {U d1 k1 Y q r q' r' : Int} (h : Guess U d1 (U * 4294967296 + k1) Y q r) (hd : 0 < d1) (hq1 : 1 ≤ q) (hq : (U * 4294967296 + k1) / Y ≤ q - 1) (hr : r + d1 < 4294967296) (eq : q - 1 = q') (er : r + d1 = r') :
    Guess U d1 (U * 4294967296 + k1) Y q' r' := by
  obtain ⟨h1, h2, h3, h4, h5, h6⟩ := h
  subst eq er
  refine ⟨?_, by omega, hr, by omega, by omega, hq⟩
  rw [Int.sub_mul]; omega

theorem Guess.break {U d1 d0 k1 Y q r q' : Int} (h : Guess U d1 (U * 4294967296 + k1) Y q r) (hY : Y = d1 * 4294967296 + d0) (hp : 0 < Y) (h0 : 0 ≤ d0) (h0' : d0 < 4294967296) (hk : 0 ≤ k1) (hq1 : 1 ≤ q)
    (hq : (U * 4294967296 + k1) / Y ≤ q - 1) (hr : 4294967296 ≤ r + d1) (eq : q - 1 = q') : (U * 4294967296 + k1) / Y = q' := by
  obtain ⟨h1, h2, h3, h4, h5, h6⟩ := h
  subst eq
  exact (guess_break (M := 4294967296) (d1 := d1) (d0 := d0) (r := r + d1) (by omega) hY hp h0' h0 hk (by rw [Int.sub_mul]; omega) (by omega) hr hq).symm

theorem Guess.mulBound {U d1 T Y q r d0 : Int} (h : Guess U d1 T Y q r) (h0 : 0 ≤ d0) (h0' : d0 < 4294967296) : 0 ≤ q * d0 ∧ q * d0 ≤ 18446744073709551615 := by
  obtain ⟨h1, h2, h3, h4, h5, h6⟩ := h
  have a := Int.mul_nonneg h4 h0
  have b : q * d0 ≤ 4294967297 * 4294967295 := Int.mul_le_mul h5 (by omega) h0 (by omega)
  omega

set_option maxHeartbeats 1000000 in
theorem div64_great (hi lo y : Int) (w : World) (h0 : 0 < hi) (h1 : hi < y) (l0 : 0 ≤ lo) (l1 : lo ≤ 18446744073709551615) (y1 : y ≤ 18446744073709551615) :
    Calls Try.prog 37 #[.int .u64 hi, .int .u64 lo, .int .u64 y] w fun e w' => e = .returned (.tuple #[.int .u64 ((hi * 18446744073709551616 + lo) / y), .int .u64 ((hi * 18446744073709551616 + lo) % y)]) ∧ Below w.heap.size w w' := by
  obtain ⟨s, s0, hs, Y0, Y1⟩ := lz_spec y (by omega) (by omega)
  have hP : (0 : Int) < 2 ^ s := Int.pow_pos (by decide)
  have hhi : hi * 2 ^ s < y * 2 ^ s := Int.mul_lt_mul_of_pos_right h1 hP
  have hhi0 : 0 ≤ hi * 2 ^ s := Int.mul_nonneg (by omega) (by omega)
  have hsp := pow_split s (by omega)
  have hsl := shift_lo (lo := lo) hsp
  have hT : (0 : Int) < 2 ^ (64 - s) := Int.pow_pos (by decide)
  have hq0 : 0 ≤ lo / 2 ^ (64 - s) := Int.ediv_nonneg l0 (by omega)
  have hq1 : lo / 2 ^ (64 - s) < 2 ^ s := Int.ediv_lt_of_lt_mul hT (by rw [hsp]; omega)
  have hq2 : lo / 2 ^ (64 - s) ≤ lo := Int.ediv_le_self _ l0
  have hor := or_add hi (lo / 2 ^ (64 - s)) s (by omega) hq0 hq1 (by omega) (by omega)
  have eY : IntKind.u64.wrap (y * 2 ^ s) = y * 2 ^ s := by rw [IntKind.wrap_u64]; omega
  have eH : IntKind.u64.wrap (hi * 2 ^ s) = hi * 2 ^ s := by rw [IntKind.wrap_u64]; omega
  have eL : IntKind.u64.wrap (lo * 2 ^ s) = (lo * 2 ^ s) % 18446744073709551616 := IntKind.wrap_u64 _
  have eU : bits .or .u64 (IntKind.u64.wrap (hi * 2 ^ s)) (lo / 2 ^ (64 - s)) = hi * 2 ^ s + lo / 2 ^ (64 - s) := by rw [eH, hor]
  have hUlt : hi * 2 ^ s + lo / 2 ^ (64 - s) < y * 2 ^ s := by
    have : (hi + 1) * 2 ^ s ≤ y * 2 ^ s := Int.mul_le_mul_of_nonneg_right (by omega) (by omega)
    rw [Int.add_mul] at this; omega
  have hN : (hi * 18446744073709551616 + lo) * 2 ^ s = (hi * 2 ^ s + lo / 2 ^ (64 - s)) * 18446744073709551616 + (lo * 2 ^ s) % 18446744073709551616 := by
    rw [Int.add_mul, Int.mul_right_comm]; omega
  obtain ⟨P, hPe⟩ : ∃ P : Int, (2 : Int) ^ s = P := ⟨_, rfl⟩
  obtain ⟨Y, eY'⟩ : ∃ Y : Int, y * 2 ^ s = Y := ⟨_, rfl⟩
  obtain ⟨U, eU'⟩ : ∃ U : Int, hi * 2 ^ s + lo / 2 ^ (64 - s) = U := ⟨_, rfl⟩
  obtain ⟨L, eL'⟩ : ∃ L : Int, (lo * 2 ^ s) % 18446744073709551616 = L := ⟨_, rfl⟩
  have eLw : IntKind.u64.wrap (lo * 2 ^ s) = L := by rw [eL, eL']
  have L0 : 0 ≤ L := by omega
  have L1 : L < 18446744073709551616 := by omega
  rw [eY'] at hUlt Y0 Y1
  have eYw : IntKind.u64.wrap (y * 2 ^ s) = Y := by rw [eY, eY']
  clear eY
  rw [eU'] at eU hN hUlt
  rw [eL'] at hN
  have U0 : 0 ≤ U := by omega
  have HN : Hid ((hi * 18446744073709551616 + lo) * P = U * 18446744073709551616 + L) := by rw [← hPe]; exact hN
  have HY : Hid (Y = y * P) := by rw [← hPe]; exact eY'.symm
  have HP : Hid (2 ^ s = P) := hPe
  have HS := Lib.hid hs
  rw [hPe] at hP
  clear hN hPe eY' eU' eL' eL hs eH hor hsp hsl hT hq0 hq1 hq2 hhi hhi0
  have m1 := mask32 Y (by omega) (by omega)
  have m2 := mask32 L (by omega) (by omega)
  obtain ⟨d1, ed1⟩ : ∃ d : Int, Y / 4294967296 = d := ⟨_, rfl⟩
  obtain ⟨d0, ed0⟩ : ∃ d : Int, Y % 4294967296 = d := ⟨_, rfl⟩
  obtain ⟨k1, ek1⟩ : ∃ d : Int, L / 4294967296 = d := ⟨_, rfl⟩
  obtain ⟨k0, ek0⟩ : ∃ d : Int, L % 4294967296 = d := ⟨_, rfl⟩
  rw [ed0] at m1; rw [ek0] at m2
  have HYs : Hid (Y = d1 * 4294967296 + d0) := by have : Y = d1 * 4294967296 + d0 := by omega
                                                  exact this
  have HLs : Hid (L = k1 * 4294967296 + k0) := by have : L = k1 * 4294967296 + k0 := by omega
                                                  exact this
  have b1 : 2147483648 ≤ d1 := by omega
  have b2 : d1 < 4294967296 := by omega
  have b3 : 0 ≤ d0 := by omega
  have b4 : d0 < 4294967296 := by omega
  have b5 : 0 ≤ k1 := by omega
  have b6 : k1 < 4294967296 := by omega
  have b7 : 0 ≤ k0 := by omega
  have b8 : k0 < 4294967296 := by omega
  obtain ⟨qg, eqg⟩ : ∃ q : Int, U / d1 = q := ⟨_, rfl⟩
  obtain ⟨g0, g1, g2, g3⟩ := first_guess (M := 4294967296) (un := U) (y := Y) (by omega) HYs.out (by omega) b4 U0 hUlt eqg.symm
  have g4 := digit_le (M := 4294967296) (u1 := k1) (by omega) HYs.out (by omega) b3 U0 b6 eqg.symm
  have et : IntKind.u64.wrap (U.tdiv d1) = qg := by
    rw [Int.tdiv_eq_ediv_of_nonneg U0, eqg, IntKind.wrap_u64]; omega
  obtain ⟨rg, erg⟩ : ∃ r : Int, U - qg * d1 = r := ⟨_, rfl⟩
  rw [erg] at g2 g3
  have er : IntKind.u64.wrap (U - IntKind.u64.wrap (qg * d1)) = rg := by
    rw [IntKind.wrap_u64, IntKind.wrap_u64]; omega
  have HG : Hid (Guess U d1 (U * 4294967296 + k1) Y qg rg) := ⟨erg.symm, by omega, by omega, g0, g1, g4⟩
  clear g4 erg eqg g2 g3
  have hz : (y == 0) = false := by simp; omega
  have hz' : ¬ y = 0 := by omega
  have hh : (hi == 0) = false := by simp; omega
  have hd' : ¬ d1 = 0 := by omega
  have HE := Lib.hid ek1
  clear ek0 ed0
  go_enter Try.func37, Try.ntmps37
  go_upto_block 0 with (go_at_call 39; refine (Try.bits_LeadingZeros64 _ _ (by omega) (by omega)).mono ?_; rintro e w' ⟨rfl, hw⟩; obtain rfl := hw.symm; rw [HS.out])
  go_cut [15] (fun v wx => ∃ q : Int, v = .int .u64 q ∧ Hid ((U * 4294967296 + k1) / Y = q) ∧ w = wx)
  case first =>
    go_wp2_with fail
    go_loop [15, 16] (fun a b => ∃ q r : Int, a = .int .u64 q ∧ b = .int .u64 r ∧ Hid (Guess U d1 (U * 4294967296 + k1) Y q r)) (fun a _ => (intOf a).toNat)
    case atStart => exact ⟨_, _, rfl, rfl, HG⟩
    case round =>
      clear HG
      obtain ⟨q, r, rfl, rfl, HG⟩ := hrel
      obtain ⟨c1, c2⟩ := HG.out.mulBound b3 b4
      have c3 := HG.out.2.1
      have c4 := HG.out.2.2.1
      have c5 := HG.out.2.2.2.1
      have c6 := HG.out.2.2.2.2.1
      by_cases ht : 4294967296 ≤ q
      · obtain ⟨t1, t2, t3⟩ := HG.out.dec HYs.out (by omega) hUlt b6 U0 b5 (.inl ht)
        have T3 := Lib.hid t3
        clear t3
        by_cases hr : 4294967296 ≤ r + d1
        · have HB := Lib.hid (HG.out.break HYs.out (by omega) b3 b4 b5 t1 T3.out hr rfl)
          go_wp2
          go_meet
          exact ⟨_, rfl, HB, rfl⟩
        · have HB := Lib.hid (HG.out.next (by omega) t1 T3.out (by omega) rfl rfl)
          go_wp2
          go_round
          case rel => exact ⟨_, _, rfl, rfl, HB⟩
          case measure => simp [intOf]; omega
      · by_cases ht2 : 4294967296 * r + k1 < q * d0
        · obtain ⟨t1, t2, t3⟩ := HG.out.dec HYs.out (by omega) hUlt b6 U0 b5 (.inr ht2)
          have T3 := Lib.hid t3
          clear t3
          by_cases hr : 4294967296 ≤ r + d1
          · have HB := Lib.hid (HG.out.break HYs.out (by omega) b3 b4 b5 t1 T3.out hr rfl)
            go_wp2
            go_meet
            exact ⟨_, rfl, HB, rfl⟩
          · have HB := Lib.hid (HG.out.next (by omega) t1 T3.out (by omega) rfl rfl)
            go_wp2
            go_round
            case rel => exact ⟨_, _, rfl, rfl, HB⟩
            case measure => simp [intOf]; omega
        · have HB := Lib.hid (HG.out.done HYs.out (by omega) ht2)
          go_wp2
          go_meet
          exact ⟨_, rfl, HB, rfl⟩
  case rest =>
    obtain ⟨q, rfl, hq, rfl⟩ := hcut
    clear HG
    obtain ⟨R1, eR1⟩ : ∃ R : Int, U * 4294967296 + k1 - q * Y = R := ⟨_, rfl⟩
    have R1b : 0 ≤ R1 ∧ R1 < Y := by
      have a := Int.emod_add_mul_ediv (U * 4294967296 + k1) Y
      have b := Int.emod_nonneg (U * 4294967296 + k1) (show Y ≠ 0 by omega)
      have c := Int.emod_lt_of_pos (U * 4294967296 + k1) (show 0 < Y by omega)
      rw [hq.out, Int.mul_comm Y q] at a
      omega
    obtain ⟨R10, R11⟩ := R1b
    have eR1w : IntKind.u64.wrap (IntKind.u64.wrap (IntKind.u64.wrap (U * 4294967296) + k1) - IntKind.u64.wrap (q * Y)) = R1 := by
      simp only [IntKind.wrap_u64]; omega
    have ER1 := Lib.hid eR1
    clear eR1
    obtain ⟨qg', eqg⟩ : ∃ q : Int, R1 / d1 = q := ⟨_, rfl⟩
    obtain ⟨g0', g1', g2, g3⟩ := first_guess (M := 4294967296) (un := R1) (y := Y) (by omega) HYs.out (by omega) b4 R10 R11 eqg.symm
    have g4 := digit_le (M := 4294967296) (u1 := k0) (by omega) HYs.out (by omega) b3 R10 b8 eqg.symm
    have et' : IntKind.u64.wrap (R1.tdiv d1) = qg' := by
      rw [Int.tdiv_eq_ediv_of_nonneg R10, eqg, IntKind.wrap_u64]; omega
    obtain ⟨rg', erg⟩ : ∃ r : Int, R1 - qg' * d1 = r := ⟨_, rfl⟩
    rw [erg] at g2 g3
    have er' : IntKind.u64.wrap (R1 - IntKind.u64.wrap (qg' * d1)) = rg' := by
      rw [IntKind.wrap_u64, IntKind.wrap_u64]; omega
    have HG : Hid (Guess R1 d1 (R1 * 4294967296 + k0) Y qg' rg') := ⟨erg.symm, by omega, by omega, g0', g1', g4⟩
    clear g4 erg eqg g2 g3
    go_upto_block 2 with fail
    go_cut [18] (fun v wx => ∃ p : Int, v = .int .u64 p ∧ Hid ((R1 * 4294967296 + k0) / Y = p) ∧ w = wx)
    case first =>
      go_wp2_with fail
      go_loop [18, 16] (fun a b => ∃ q r : Int, a = .int .u64 q ∧ b = .int .u64 r ∧ Hid (Guess R1 d1 (R1 * 4294967296 + k0) Y q r)) (fun a _ => (intOf a).toNat)
      case atStart => exact ⟨_, _, rfl, rfl, HG⟩
      case round =>
        clear HG
        obtain ⟨q, r, rfl, rfl, HG⟩ := hrel
        obtain ⟨c1, c2⟩ := HG.out.mulBound b3 b4
        have c3 := HG.out.2.1
        have c4 := HG.out.2.2.1
        have c5 := HG.out.2.2.2.1
        have c6 := HG.out.2.2.2.2.1
        by_cases ht : 4294967296 ≤ q
        · obtain ⟨t1, t2, t3⟩ := HG.out.dec HYs.out (by omega) R11 b8 R10 b7 (.inl ht)
          have T3 := Lib.hid t3
          clear t3
          by_cases hr : 4294967296 ≤ r + d1
          · have HB := Lib.hid (HG.out.break HYs.out (by omega) b3 b4 b7 t1 T3.out hr rfl)
            go_wp2
            go_meet
            exact ⟨_, rfl, HB, rfl⟩
          · have HB := Lib.hid (HG.out.next (by omega) t1 T3.out (by omega) rfl rfl)
            go_wp2
            go_round
            case rel => exact ⟨_, _, rfl, rfl, HB⟩
            case measure => simp [intOf]; omega
        · by_cases ht2 : 4294967296 * r + k0 < q * d0
          · obtain ⟨t1, t2, t3⟩ := HG.out.dec HYs.out (by omega) R11 b8 R10 b7 (.inr ht2)
            have T3 := Lib.hid t3
            clear t3
            by_cases hr : 4294967296 ≤ r + d1
            · have HB := Lib.hid (HG.out.break HYs.out (by omega) b3 b4 b7 t1 T3.out hr rfl)
              go_wp2
              go_meet
              exact ⟨_, rfl, HB, rfl⟩
            · have HB := Lib.hid (HG.out.next (by omega) t1 T3.out (by omega) rfl rfl)
              go_wp2
              go_round
              case rel => exact ⟨_, _, rfl, rfl, HB⟩
              case measure => simp [intOf]; omega
          · have HB := Lib.hid (HG.out.done HYs.out (by omega) ht2)
            go_wp2
            go_meet
            exact ⟨_, rfl, HB, rfl⟩
    case rest =>
      obtain ⟨p, rfl, hp, rfl⟩ := hcut
      clear HG
      obtain ⟨R2, eR2⟩ : ∃ R : Int, R1 * 4294967296 + k0 - p * Y = R := ⟨_, rfl⟩
      have R2b : 0 ≤ R2 ∧ R2 < Y := by
        have a := Int.emod_add_mul_ediv (R1 * 4294967296 + k0) Y
        have b := Int.emod_nonneg (R1 * 4294967296 + k0) (show Y ≠ 0 by omega)
        have c := Int.emod_lt_of_pos (R1 * 4294967296 + k0) (show 0 < Y by omega)
        rw [hp.out, Int.mul_comm Y p] at a
        omega
      obtain ⟨R20, R21⟩ := R2b
      have eR2w : IntKind.u64.wrap (IntKind.u64.wrap (IntKind.u64.wrap (R1 * 4294967296) + k0) - IntKind.u64.wrap (p * Y)) = R2 := by
        simp only [IntKind.wrap_u64]; omega
      have ER2 := Lib.hid eR2
      clear eR2
      have FIN := two_digits (y := y) (P := P) (Y := Y) (M := 4294967296) (N := hi * 18446744073709551616 + lo) (U := U) (L1 := k1) (L0 := k0) (q1 := q) (U1 := R1) (q0 := p) (R := R2)
        hP (by omega) HY.out (by rw [HN.out, HLs.out]; omega) ER1.out.symm ER2.out.symm R20 R21
      have hlt : (hi * 18446744073709551616 + lo) / y < 18446744073709551616 := Int.ediv_lt_of_lt_mul (by omega) (by omega)
      have hge : 0 ≤ (hi * 18446744073709551616 + lo) / y := Int.ediv_nonneg (by omega) (by omega)
      have F1 : Hid (IntKind.u64.wrap (IntKind.u64.wrap (q * 4294967296) + p) = (hi * 18446744073709551616 + lo) / y) := by
        have : IntKind.u64.wrap (IntKind.u64.wrap (q * 4294967296) + p) = (hi * 18446744073709551616 + lo) / y := by
          simp only [IntKind.wrap_u64]; omega
        exact this
      have F2 : Hid (R2 / 2 ^ s = (hi * 18446744073709551616 + lo) % y) := by
        have : R2 / 2 ^ s = (hi * 18446744073709551616 + lo) % y := by rw [HP.out]; exact FIN.2
        exact this
      clear FIN hlt hge
      go_wp2
      go_ret2
      exact ⟨ret_ii F1.out F2.out, Below.refl _ _⟩

/-- **Two words by one**: whatever they are, as long as the quotient fits one word. -/
theorem div64_any (hi lo y : Int) (w : World) (h0 : 0 ≤ hi) (h1 : hi < y) (l0 : 0 ≤ lo) (l1 : lo ≤ 18446744073709551615) (y1 : y ≤ 18446744073709551615) :
    Calls Try.prog 37 #[.int .u64 hi, .int .u64 lo, .int .u64 y] w fun e w' => e = .returned (.tuple #[.int .u64 ((hi * 18446744073709551616 + lo) / y), .int .u64 ((hi * 18446744073709551616 + lo) % y)]) ∧ Below w.heap.size w w' := by
  by_cases hz : hi = 0
  · subst hz
    have := div64_zero lo y w l0 l1 h1 y1
    simpa using this
  · exact div64_great hi lo y w (by omega) h1 l0 l1 y1

end Go.Proofs.Ytbhpfhggcdccjaa
