/- The contracts of the package wides of the program, third part: quotients. -/
import Derived.Test.YtbhpfhggcdccjaaWidesB
namespace Go.Proofs.Ytbhpfhggcdccjaa
open Go.RowKit Go.Proofs.WPlain

theorem ret_divided {a b c d e f g : Int} (h1 : a = d) (h2 : b = e) (h3 : c = f) : Ending.returned (.tuple #[.agg #[.int .u64 a, .int .u64 b, .int .u64 g], .int .u64 c]) = .returned (.tuple #[.agg #[.int .u64 d, .int .u64 e, .int .u64 g], .int .u64 f]) := by rw [h1, h2, h3]

set_option maxHeartbeats 1000000 in
/-- A number without its sign, by one word: both words of the quotient, and what is left. -/
theorem divided_any (m d : Int) (w : World) (m0 : 0 ≤ m) (m1 : m < 170141183460469231731687303715884105728) (d0 : 0 < d) (d1 : d ≤ 18446744073709551615) :
    Calls Try.prog 32 #[.agg #[.int .u64 (loW m), .int .u64 (hiW m), .int .u64 0], .int .u64 d] w fun e w' =>
      e = .returned (.tuple #[.agg #[.int .u64 (loW (m / d)), .int .u64 (hiW (m / d)), .int .u64 0], .int .u64 (m % d)]) ∧ Below w.heap.size w w' := by
  have hh0 : 0 ≤ hiW m := by unfold hiW; omega
  have hh1 := (hiW_b m (by omega) m1).2
  obtain ⟨l0, l1⟩ := loW_b m
  have em := hiloW m
  generalize hiW m = h at *
  generalize loW m = l at *
  have D1 := div64_any 0 h d
  have D2 := div64_any (h % d) l d
  have r0 : 0 ≤ h % d := Int.emod_nonneg _ (by omega)
  have r1 : h % d < d := Int.emod_lt_of_pos _ d0
  have E0 : (0 * 18446744073709551616 + h) / d = h / d := by simp
  have E0' : (0 * 18446744073709551616 + h) % d = h % d := by simp
  rw [E0, E0'] at D1
  obtain ⟨q1, eq1⟩ : ∃ q : Int, h / d = q := ⟨_, rfl⟩
  obtain ⟨k1, ek1⟩ : ∃ q : Int, h % d = q := ⟨_, rfl⟩
  obtain ⟨q2, eq2⟩ : ∃ q : Int, (k1 * 18446744073709551616 + l) / d = q := ⟨_, rfl⟩
  obtain ⟨k2, ek2⟩ : ∃ q : Int, (k1 * 18446744073709551616 + l) % d = q := ⟨_, rfl⟩
  rw [ek1] at D2 r0 r1
  rw [eq1, ek1] at D1
  rw [eq2, ek2] at D2
  have hh := Int.emod_add_mul_ediv h d
  have hl := Int.emod_add_mul_ediv (k1 * 18446744073709551616 + l) d
  have q20 : 0 ≤ q2 := by rw [← eq2]; exact Int.ediv_nonneg (by omega) (by omega)
  have q21 : q2 < 18446744073709551616 := by rw [← eq2]; exact Int.ediv_lt_of_lt_mul d0 (by omega)
  have k20 : 0 ≤ k2 := by rw [← ek2]; exact Int.emod_nonneg _ (by omega)
  have k21 : k2 < d := by rw [← ek2]; exact Int.emod_lt_of_pos _ d0
  rw [eq1, ek1] at hh
  rw [eq2, ek2] at hl
  have em2 : m = (q1 * 18446744073709551616 + q2) * d + k2 := by
    rw [Int.add_mul, Int.mul_right_comm, Int.mul_comm q1 d, Int.mul_comm q2 d]; omega
  have EQ : m / d = q1 * 18446744073709551616 + q2 := WPlain.div_eq_of d0 (by omega) (by rw [Int.add_mul (q1 * 18446744073709551616 + q2) 1 d]; omega)
  have F1 : Hid (q2 = loW (m / d)) := by
    have : q2 = loW (m / d) := by rw [EQ]; unfold loW; omega
    exact this
  have F2 : Hid (q1 = hiW (m / d)) := by
    have : q1 = hiW (m / d) := by rw [EQ]; unfold hiW; omega
    exact this
  have F3 : Hid (k2 = m % d) := by
    have : k2 = m % d := by
      have := Int.emod_add_mul_ediv m d
      rw [EQ, Int.mul_comm d] at this; omega
    exact this
  clear hh hl em em2 EQ eq1 ek1 eq2 ek2 E0 E0' m0 m1
  go_enter Try.func32, Try.ntmps32
  go_wp2
  refine wp_loop_rounds 3 ?_
  rw [rounds_succ]
  go_wp2_with (go_at_call 37; refine (D1 _ (by omega) d0 hh0 (by omega) d1).mono ?_; rintro e w1 ⟨rfl, hb⟩; obtain ⟨hc, hf⟩ := bcell hb; have c1 : w1.cell? ⟨w.heap.size, 0, none⟩ = some (.int .u64 l) := (hc _ _ (by first | omega | (simp; done) | (simp; omega))).trans (by go_simp); have c2 : w1.cell? ⟨w.heap.size + 1, 1, none⟩ = some (.int .u64 0) := (hc _ _ (by first | omega | (simp; done) | (simp; omega))).trans (by go_simp); have f1 : ∀ o, w1.frozen? ⟨w.heap.size + 1, o, none⟩ = false := fun o => (hf _ o (by first | omega | (simp; done) | (simp; omega))).trans (by go_simp))
  have c3 : w1.cell? ⟨w.heap.size + 1, 0, none⟩ = some (.int .u64 0) := (hc _ _ (by first | omega | (simp; done) | (simp; omega))).trans (by go_simp)
  have c4 : w1.cell? ⟨w.heap.size + 1, 2, none⟩ = some (.int .u64 0) := (hc _ _ (by first | omega | (simp; done) | (simp; omega))).trans (by go_simp)
  have hz : w.heap.size + 2 ≤ w1.heap.size := by have := hb.size; simp at this; omega
  have HB := Lib.hid hb
  clear hb hc hf
  rw [rounds_succ]
  go_wp2_with (go_at_call 37; refine (D2 _ r0 r1 l0 l1 d1).mono ?_; rintro e w2 ⟨rfl, hb2⟩; obtain ⟨hc, hf⟩ := bcell hb2; have c1 : w2.cell? ⟨w.heap.size + 1, 0, none⟩ = some (.int .u64 0) := (hc _ _ (by first | omega | (simp; done) | (simp; omega))).trans (by go_simp); have c2 : w2.cell? ⟨w.heap.size + 1, 1, none⟩ = some (.int .u64 q1) := (hc _ _ (by first | omega | (simp; done) | (simp; omega))).trans (by go_simp); have f1 : ∀ o, w2.frozen? ⟨w.heap.size + 1, o, none⟩ = false := fun o => (hf _ o (by first | omega | (simp; done) | (simp; omega))).trans (by go_simp))
  have c5 : w2.cell? ⟨w.heap.size + 1, 2, none⟩ = some (.int .u64 0) := (hc _ _ (by first | omega | (simp; done) | (simp; omega))).trans (by go_simp)
  rw [rounds_succ]
  go_wp2
  refine bodyPost_ret (v := .tuple #[.agg #[.int .u64 q2, .int .u64 q1, .int .u64 0], .int .u64 k2]) (by simp [results, Try.results32, go_sem, c1, c2, c5]) rfl ⟨ret_divided F1.out F2.out F3.out, ?_⟩
  have hb1 : Below w.heap.size w (w1.setCell ⟨w.heap.size + 1, 1, none⟩ (.int .u64 q1)) := by (((repeat (first | (with_reducible refine balloc ?_ _) | (with_reducible refine Below.drew ?_) | (with_reducible refine below_drewN ?_ _) | ((with_reducible refine Below.setCell ?_ ?_ _); rotate_left; focus (first | omega | (simp; done) | (simp; omega))))); refine joinB ?_ HB.out; (repeat (first | (with_reducible refine balloc ?_ _) | (with_reducible refine Below.drew ?_) | (with_reducible refine below_drewN ?_ _) | ((with_reducible refine Below.setCell ?_ ?_ _); rotate_left; focus (first | omega | (simp; done) | (simp; omega))))); with_reducible exact Below.refl _ _))
  (repeat (refine Below.setCell ?_ (by first | omega | (simp; done) | (simp; omega)) _))
  exact hb1.trans (hb2.mono (by first | omega | (simp; done) | (simp; omega)))

theorem ret_floor {a b c d r s e : Int} (h1 : a = c) (h2 : b = d) (h3 : r = s) : Ending.returned (.tuple #[.agg #[.int .i64 a, .int .u64 b], .int .i64 r, .int .i64 e]) = .returned (.tuple #[.agg #[.int .i64 c, .int .u64 d], .int .i64 s, .int .i64 e]) := by rw [h1, h2, h3]

set_option maxHeartbeats 1000000 in
theorem floor_pos (z d : Int) (w : World) (z0 : 0 ≤ z) (z1 : z < 170141183460469231731687303715884105728) (d0 : 1 ≤ d) (d1 : d ≤ 9223372036854775807) :
    Calls Try.prog 29 #[.agg #[.int .i64 (hiW z), .int .u64 (loW z)], .int .i64 d] w fun e w' => e = .returned (.tuple #[.agg #[.int .i64 (hiW (z / d)), .int .u64 (loW (z / d))], .int .i64 (z % d), .int .i64 0]) ∧ Below w.heap.size w w' := by
  have P := part_pos z
  have D := divided_any z d
  have q0 : 0 ≤ z / d := Int.ediv_nonneg z0 (by omega)
  have q1 : z / d ≤ z := Int.ediv_le_self _ z0
  have H := whole_pos (z / d)
  have r0 : 0 ≤ z % d := Int.emod_nonneg _ (by omega)
  have r1 : z % d < d := Int.emod_lt_of_pos _ (by omega)
  obtain ⟨q, eq⟩ : ∃ q : Int, z / d = q := ⟨_, rfl⟩
  obtain ⟨r, er⟩ : ∃ q : Int, z % d = q := ⟨_, rfl⟩
  rw [eq] at H q0 q1
  rw [eq, er] at D
  rw [er] at r0 r1
  rw [eq, er]
  clear eq er
  go_enter Try.func29, Try.ntmps29
  go_wp2_with (first
    | (go_at_call 31; refine (P _ z0 z1).mono ?_; rintro e w1 ⟨rfl, hb⟩; obtain ⟨hc, hf⟩ := bcell hb; have c1 : w1.cell? ⟨w.heap.size + 1, 0, none⟩ = some (.int .i64 0) := (hc _ _ (by first | omega | (simp; done) | (simp; omega))).trans (by go_simp); have c2 : w1.cell? ⟨w.heap.size + 1, 1, none⟩ = some (.int .u64 0) := (hc _ _ (by first | omega | (simp; done) | (simp; omega))).trans (by go_simp); have f1 : ∀ o, w1.frozen? ⟨w.heap.size + 1, o, none⟩ = false := fun o => (hf _ o (by first | omega | (simp; done) | (simp; omega))).trans (by go_simp); have hz : w.heap.size + 1 < w1.heap.size := (by have := hb.size; (first | omega | (simp at this; omega))); have B1 := Lib.hid (joinB (show Below w.heap.size w _ by (repeat (first | (with_reducible refine balloc ?_ _) | (with_reducible refine Below.drew ?_) | (with_reducible refine below_drewN ?_ _) | ((with_reducible refine Below.setCell ?_ ?_ _); rotate_left; focus (first | omega | (simp; done) | (simp; omega))))); with_reducible exact Below.refl _ _) hb); clear hb hc hf)
    | (go_at_call 32; refine (D _ z0 z1 (by omega) (by omega)).mono ?_; rintro e w2 ⟨rfl, hb⟩; obtain ⟨hc, hf⟩ := bcell hb; have c3 : w2.cell? ⟨w.heap.size + 1, 0, none⟩ = some (.int .i64 0) := (hc _ _ (by first | omega | (simp; done) | (simp; omega))).trans (by go_simp); have c4 : w2.cell? ⟨w.heap.size + 1, 1, none⟩ = some (.int .u64 0) := (hc _ _ (by first | omega | (simp; done) | (simp; omega))).trans (by go_simp); have c5 : w2.cell? ⟨w1.heap.size, 0, none⟩ = some (.bool false) := (hc _ _ (by first | omega | (simp; done) | (simp; omega))).trans (by go_simp); have f2 : ∀ o, w2.frozen? ⟨w.heap.size + 1, o, none⟩ = false := fun o => (hf _ o (by first | omega | (simp; done) | (simp; omega))).trans (by go_simp); have hz2 : w1.heap.size < w2.heap.size := (by have := hb.size; (first | omega | (simp at this; omega))); have hz2' : w.heap.size + 1 < w2.heap.size := (by omega); have B2 := Lib.hid (joinB (show Below w.heap.size w _ by (repeat (first | (with_reducible refine balloc ?_ _) | (with_reducible refine Below.drew ?_) | (with_reducible refine below_drewN ?_ _) | ((with_reducible refine Below.setCell ?_ ?_ _); rotate_left; focus (first | omega | (simp; done) | (simp; omega))))); with_reducible exact B1.out) hb); clear hb hc hf)
    | (go_at_call 33; refine (H _ q0 (by omega)).mono ?_; rintro e w3 ⟨rfl, hb⟩; obtain ⟨hc, hf⟩ := bcell hb; have c6 : w3.cell? ⟨w.heap.size + 1, 0, none⟩ = some (.int .i64 0) := (hc _ _ (by first | omega | (simp; done) | (simp; omega))).trans (by go_simp); have c7 : w3.cell? ⟨w.heap.size + 1, 1, none⟩ = some (.int .u64 0) := (hc _ _ (by first | omega | (simp; done) | (simp; omega))).trans (by go_simp); have c8 : w3.cell? ⟨w1.heap.size, 0, none⟩ = some (.bool false) := (hc _ _ (by first | omega | (simp; done) | (simp; omega))).trans (by go_simp); have f3 : ∀ o, w3.frozen? ⟨w.heap.size + 1, o, none⟩ = false := fun o => (hf _ o (by first | omega | (simp; done) | (simp; omega))).trans (by go_simp); have hz3 : w2.heap.size < w3.heap.size := (by have := hb.size; (first | omega | (simp at this; omega))); have hz3' : w.heap.size + 1 < w3.heap.size := (by omega); have B3 := Lib.hid (joinB (show Below w.heap.size w _ by (repeat (first | (with_reducible refine balloc ?_ _) | (with_reducible refine Below.drew ?_) | (with_reducible refine below_drewN ?_ _) | ((with_reducible refine Below.setCell ?_ ?_ _); rotate_left; focus (first | omega | (simp; done) | (simp; omega))))); with_reducible exact B2.out) hb); clear hb hc hf))
  refine bodyPost_ret (v := .tuple #[.agg #[.int .i64 (hiW q), .int .u64 (loW q)], .int .i64 r, .int .i64 0]) (by simp [results, Try.results29, go_sem, c6, c7]) rfl ⟨rfl, ?_⟩
  ((repeat (first | (with_reducible refine balloc ?_ _) | (with_reducible refine Below.drew ?_) | (with_reducible refine below_drewN ?_ _) | ((with_reducible refine Below.setCell ?_ ?_ _); rotate_left; focus (first | omega | (simp; done) | (simp; omega))))); with_reducible exact B3.out)

theorem neg_div_even {z d : Int} (d0 : 0 < d) (hr : z % d = 0) : z / d = -((-z) / d) ∧ (-z) % d = 0 := by
  have h := Int.emod_add_mul_ediv z d
  have e : -z = d * (-(z / d)) := by rw [Int.mul_neg]; omega
  have a : (-z) / d = -(z / d) := by rw [e]; exact Int.mul_ediv_cancel_left _ (by omega)
  exact ⟨by omega, by rw [e]; exact Int.mul_emod_right _ _⟩

theorem neg_div_odd {z d : Int} (d0 : 0 < d) (hr : z % d ≠ 0) : z / d = -((-z) / d) - 1 ∧ (-z) % d = d - z % d := by
  have h := Int.emod_add_mul_ediv z d
  have g0 := Int.emod_nonneg z (show d ≠ 0 by omega)
  have g1 := Int.emod_lt_of_pos z d0
  have e : -z = (d - z % d) + d * (-(z / d) - 1) := by rw [Int.mul_sub, Int.mul_neg]; omega
  have a : (-z) / d = -(z / d) - 1 := by
    rw [e, Int.add_mul_ediv_left _ _ (by omega), Int.ediv_eq_zero_of_lt (by omega) (by omega)]; omega
  have b : (-z) % d = d - z % d := by
    rw [e, Int.add_mul_emod_self_left, Int.emod_eq_of_lt (by omega) (by omega)]
  exact ⟨by omega, b⟩

set_option maxHeartbeats 1000000 in
theorem floor_neg_even (z d : Int) (w : World) (z0 : z < 0) (z1 : -170141183460469231731687303715884105728 < z) (d0 : 1 ≤ d) (d1 : d ≤ 9223372036854775807) (hr : z % d = 0) :
    Calls Try.prog 29 #[.agg #[.int .i64 (hiW z), .int .u64 (loW z)], .int .i64 d] w fun e w' => e = .returned (.tuple #[.agg #[.int .i64 (hiW (z / d)), .int .u64 (loW (z / d))], .int .i64 (z % d), .int .i64 0]) ∧ Below w.heap.size w w' := by
  have P := part_neg z
  have D := divided_any (-z) d
  have q0 : 0 ≤ (-z) / d := Int.ediv_nonneg (by omega) (by omega)
  have q1 : (-z) / d ≤ -z := Int.ediv_le_self _ (by omega)
  have H := whole_neg ((-z) / d)
  obtain ⟨eq2, er⟩ := neg_div_even (by omega) hr
  obtain ⟨q, eq⟩ : ∃ q : Int, (-z) / d = q := ⟨_, rfl⟩
  rw [eq] at H q0 q1 eq2
  rw [eq, er] at D
  rw [eq2, hr]
  clear eq er eq2 hr
  go_enter Try.func29, Try.ntmps29
  go_wp2_with (first
    | (go_at_call 31; refine (P _ z0 z1).mono ?_; rintro e w1 ⟨rfl, hb⟩; obtain ⟨hc, hf⟩ := bcell hb; have c1 : w1.cell? ⟨w.heap.size + 1, 0, none⟩ = some (.int .i64 0) := (hc _ _ (by first | omega | (simp; done) | (simp; omega))).trans (by go_simp); have c2 : w1.cell? ⟨w.heap.size + 1, 1, none⟩ = some (.int .u64 0) := (hc _ _ (by first | omega | (simp; done) | (simp; omega))).trans (by go_simp); have f1 : ∀ o, w1.frozen? ⟨w.heap.size + 1, o, none⟩ = false := fun o => (hf _ o (by first | omega | (simp; done) | (simp; omega))).trans (by go_simp); have hz : w.heap.size + 1 < w1.heap.size := (by have := hb.size; (first | omega | (simp at this; omega))); have B1 := Lib.hid (joinB (show Below w.heap.size w _ by (repeat (first | (with_reducible refine balloc ?_ _) | (with_reducible refine Below.drew ?_) | (with_reducible refine below_drewN ?_ _) | ((with_reducible refine Below.setCell ?_ ?_ _); rotate_left; focus (first | omega | (simp; done) | (simp; omega))))); with_reducible exact Below.refl _ _) hb); clear hb hc hf)
    | (go_at_call 32; refine (D _ (by omega) (by omega) (by omega) (by omega)).mono ?_; rintro e w2 ⟨rfl, hb⟩; obtain ⟨hc, hf⟩ := bcell hb; have c3 : w2.cell? ⟨w.heap.size + 1, 0, none⟩ = some (.int .i64 0) := (hc _ _ (by first | omega | (simp; done) | (simp; omega))).trans (by go_simp); have c4 : w2.cell? ⟨w.heap.size + 1, 1, none⟩ = some (.int .u64 0) := (hc _ _ (by first | omega | (simp; done) | (simp; omega))).trans (by go_simp); have c5 : w2.cell? ⟨w1.heap.size, 0, none⟩ = some (.bool true) := (hc _ _ (by first | omega | (simp; done) | (simp; omega))).trans (by go_simp); have f2 : ∀ o, w2.frozen? ⟨w.heap.size + 1, o, none⟩ = false := fun o => (hf _ o (by first | omega | (simp; done) | (simp; omega))).trans (by go_simp); have hz2 : w1.heap.size < w2.heap.size := (by have := hb.size; (first | omega | (simp at this; omega))); have hz2' : w.heap.size + 1 < w2.heap.size := (by omega); have B2 := Lib.hid (joinB (show Below w.heap.size w _ by (repeat (first | (with_reducible refine balloc ?_ _) | (with_reducible refine Below.drew ?_) | (with_reducible refine below_drewN ?_ _) | ((with_reducible refine Below.setCell ?_ ?_ _); rotate_left; focus (first | omega | (simp; done) | (simp; omega))))); with_reducible exact B1.out) hb); clear hb hc hf)
    | (go_at_call 33; refine (H _ q0 (by omega)).mono ?_; rintro e w3 ⟨rfl, hb⟩; obtain ⟨hc, hf⟩ := bcell hb; have c6 : w3.cell? ⟨w.heap.size + 1, 0, none⟩ = some (.int .i64 0) := (hc _ _ (by first | omega | (simp; done) | (simp; omega))).trans (by go_simp); have c7 : w3.cell? ⟨w.heap.size + 1, 1, none⟩ = some (.int .u64 0) := (hc _ _ (by first | omega | (simp; done) | (simp; omega))).trans (by go_simp); have c8 : w3.cell? ⟨w1.heap.size, 0, none⟩ = some (.bool true) := (hc _ _ (by first | omega | (simp; done) | (simp; omega))).trans (by go_simp); have f3 : ∀ o, w3.frozen? ⟨w.heap.size + 1, o, none⟩ = false := fun o => (hf _ o (by first | omega | (simp; done) | (simp; omega))).trans (by go_simp); have hz3 : w2.heap.size < w3.heap.size := (by have := hb.size; (first | omega | (simp at this; omega))); have hz3' : w.heap.size + 1 < w3.heap.size := (by omega); have B3 := Lib.hid (joinB (show Below w.heap.size w _ by (repeat (first | (with_reducible refine balloc ?_ _) | (with_reducible refine Below.drew ?_) | (with_reducible refine below_drewN ?_ _) | ((with_reducible refine Below.setCell ?_ ?_ _); rotate_left; focus (first | omega | (simp; done) | (simp; omega))))); with_reducible exact B2.out) hb); clear hb hc hf))
  refine bodyPost_ret (v := .tuple #[.agg #[.int .i64 (hiW (-q)), .int .u64 (loW (-q))], .int .i64 0, .int .i64 0]) (by simp [results, Try.results29, go_sem, c6, c7]) rfl ⟨rfl, ?_⟩
  ((repeat (first | (with_reducible refine balloc ?_ _) | (with_reducible refine Below.drew ?_) | (with_reducible refine below_drewN ?_ _) | ((with_reducible refine Below.setCell ?_ ?_ _); rotate_left; focus (first | omega | (simp; done) | (simp; omega))))); with_reducible exact B3.out)

set_option maxHeartbeats 1000000 in
theorem floor_neg_odd (z d : Int) (w : World) (z0 : z < 0) (z1 : -85070591730234615865843651857942052864 ≤ z) (d0 : 1 ≤ d) (d1 : d ≤ 9223372036854775807) (hr : z % d ≠ 0) :
    Calls Try.prog 29 #[.agg #[.int .i64 (hiW z), .int .u64 (loW z)], .int .i64 d] w fun e w' => e = .returned (.tuple #[.agg #[.int .i64 (hiW (z / d)), .int .u64 (loW (z / d))], .int .i64 (z % d), .int .i64 0]) ∧ Below w.heap.size w w' := by
  have P := part_neg z
  have D := divided_any (-z) d
  have q0 : 0 ≤ (-z) / d := Int.ediv_nonneg (by omega) (by omega)
  have q1 : (-z) / d ≤ -z := Int.ediv_le_self _ (by omega)
  have H := whole_neg ((-z) / d)
  obtain ⟨eq2, er⟩ := neg_div_odd (by omega) hr
  have r0 := Int.emod_nonneg z (show d ≠ 0 by omega)
  have r1 := Int.emod_lt_of_pos z (show 0 < d by omega)
  obtain ⟨q, eq⟩ : ∃ q : Int, (-z) / d = q := ⟨_, rfl⟩
  obtain ⟨r, er2⟩ : ∃ q : Int, z % d = q := ⟨_, rfl⟩
  obtain ⟨k, ek⟩ : ∃ q : Int, d - r = q := ⟨_, rfl⟩
  rw [eq] at H q0 q1 eq2
  rw [er2, ek] at er
  rw [eq, er] at D
  rw [eq2, er2]
  rw [er2] at hr r0 r1
  have k0 : 0 < k := by omega
  have k1 : k < d := by omega
  have EK : Hid (d - k = r) := by
    have : d - k = r := by omega
    exact this
  have HO := of_any 1
  have HS := sub_any (-q) 1
  clear eq er eq2 hr er2 ek
  go_enter Try.func29, Try.ntmps29
  go_upto_region 7 with (first
    | (go_at_call 31; refine (P _ z0 (by omega)).mono ?_; rintro e w1 ⟨rfl, hb⟩; obtain ⟨hc, hf⟩ := bcell hb; have c1 : w1.cell? ⟨w.heap.size + 1, 0, none⟩ = some (.int .i64 0) := (hc _ _ (by first | omega | (simp; done) | (simp; omega))).trans (by go_simp); have c2 : w1.cell? ⟨w.heap.size + 1, 1, none⟩ = some (.int .u64 0) := (hc _ _ (by first | omega | (simp; done) | (simp; omega))).trans (by go_simp); have f1 : ∀ o, w1.frozen? ⟨w.heap.size + 1, o, none⟩ = false := fun o => (hf _ o (by first | omega | (simp; done) | (simp; omega))).trans (by go_simp); have hz : w.heap.size + 1 < w1.heap.size := (by have := hb.size; (first | omega | (simp at this; omega))); have B1 := Lib.hid (joinB (show Below w.heap.size w _ by (repeat (first | (with_reducible refine balloc ?_ _) | (with_reducible refine Below.drew ?_) | (with_reducible refine below_drewN ?_ _) | ((with_reducible refine Below.setCell ?_ ?_ _); rotate_left; focus (first | omega | (simp; done) | (simp; omega))))); with_reducible exact Below.refl _ _) hb); clear hb hc hf)
    | (go_at_call 32; refine (D _ (by omega) (by omega) (by omega) (by omega)).mono ?_; rintro e w2 ⟨rfl, hb⟩; obtain ⟨hc, hf⟩ := bcell hb; have c3 : w2.cell? ⟨w.heap.size + 1, 0, none⟩ = some (.int .i64 0) := (hc _ _ (by first | omega | (simp; done) | (simp; omega))).trans (by go_simp); have c4 : w2.cell? ⟨w.heap.size + 1, 1, none⟩ = some (.int .u64 0) := (hc _ _ (by first | omega | (simp; done) | (simp; omega))).trans (by go_simp); have c5 : w2.cell? ⟨w1.heap.size, 0, none⟩ = some (.bool true) := (hc _ _ (by first | omega | (simp; done) | (simp; omega))).trans (by go_simp); have f2 : ∀ o, w2.frozen? ⟨w.heap.size + 1, o, none⟩ = false := fun o => (hf _ o (by first | omega | (simp; done) | (simp; omega))).trans (by go_simp); have hz2 : w1.heap.size < w2.heap.size := (by have := hb.size; (first | omega | (simp at this; omega))); have hz2' : w.heap.size + 1 < w2.heap.size := (by omega); have B2 := Lib.hid (joinB (show Below w.heap.size w _ by (repeat (first | (with_reducible refine balloc ?_ _) | (with_reducible refine Below.drew ?_) | (with_reducible refine below_drewN ?_ _) | ((with_reducible refine Below.setCell ?_ ?_ _); rotate_left; focus (first | omega | (simp; done) | (simp; omega))))); with_reducible exact B1.out) hb); clear hb hc hf)
    | (go_at_call 33; refine (H _ q0 (by omega)).mono ?_; rintro e w3 ⟨rfl, hb⟩; obtain ⟨hc, hf⟩ := bcell hb; have c6 : w3.cell? ⟨w.heap.size + 1, 0, none⟩ = some (.int .i64 0) := (hc _ _ (by first | omega | (simp; done) | (simp; omega))).trans (by go_simp); have c7 : w3.cell? ⟨w.heap.size + 1, 1, none⟩ = some (.int .u64 0) := (hc _ _ (by first | omega | (simp; done) | (simp; omega))).trans (by go_simp); have c8 : w3.cell? ⟨w1.heap.size, 0, none⟩ = some (.bool true) := (hc _ _ (by first | omega | (simp; done) | (simp; omega))).trans (by go_simp); have f3 : ∀ o, w3.frozen? ⟨w.heap.size + 1, o, none⟩ = false := fun o => (hf _ o (by first | omega | (simp; done) | (simp; omega))).trans (by go_simp); have hz3 : w2.heap.size < w3.heap.size := (by have := hb.size; (first | omega | (simp at this; omega))); have hz3' : w.heap.size + 1 < w3.heap.size := (by omega); have B3 := Lib.hid (joinB (show Below w.heap.size w _ by (repeat (first | (with_reducible refine balloc ?_ _) | (with_reducible refine Below.drew ?_) | (with_reducible refine below_drewN ?_ _) | ((with_reducible refine Below.setCell ?_ ?_ _); rotate_left; focus (first | omega | (simp; done) | (simp; omega))))); with_reducible exact B2.out) hb); clear hb hc hf))
  go_cut [37] (fun _ wx => wx.cell? ⟨w.heap.size + 1, 0, none⟩ = some (.int .i64 (hiW (-q - 1))) ∧ wx.cell? ⟨w.heap.size + 1, 1, none⟩ = some (.int .u64 (loW (-q - 1))) ∧ (∀ o, wx.frozen? ⟨w.heap.size + 1, o, none⟩ = false) ∧ w.heap.size + 1 < wx.heap.size ∧ Below w.heap.size w wx)
  case first =>
    clear P D H
    go_region_with (first
      | (go_at_call 27; refine (HO _ (by omega) (by omega)).mono ?_; rintro e w4 ⟨rfl, hb⟩; obtain ⟨hc, hf⟩ := bcell hb; have c9 : w4.cell? ⟨w.heap.size + 1, 0, none⟩ = some (.int .i64 (hiW (-q))) := (hc _ _ (by first | omega | (simp; done) | (simp; omega))).trans (by go_simp); have c10 : w4.cell? ⟨w.heap.size + 1, 1, none⟩ = some (.int .u64 (loW (-q))) := (hc _ _ (by first | omega | (simp; done) | (simp; omega))).trans (by go_simp); have f4 : ∀ o, w4.frozen? ⟨w.heap.size + 1, o, none⟩ = false := fun o => (hf _ o (by first | omega | (simp; done) | (simp; omega))).trans (by go_simp); have hz4 : w3.heap.size ≤ w4.heap.size := (by have := hb.size; (first | omega | (simp at this; omega))); have hz4' : w.heap.size + 1 < w4.heap.size := (by omega); have B4 := Lib.hid (joinB (show Below w.heap.size w _ by (repeat (first | (with_reducible refine balloc ?_ _) | (with_reducible refine Below.drew ?_) | (with_reducible refine below_drewN ?_ _) | ((with_reducible refine Below.setCell ?_ ?_ _); rotate_left; focus (first | omega | (simp; done) | (simp; omega))))); with_reducible exact B3.out) hb); clear hb hc hf)
      | (go_at_call 34; refine (HS _ (by omega) (by omega) (by omega) (by omega)).mono ?_; rintro e w5 ⟨rfl, hb⟩; obtain ⟨hc, hf⟩ := bcell hb; have c11 : w5.cell? ⟨w.heap.size + 1, 0, none⟩ = some (.int .i64 (hiW (-q))) := (hc _ _ (by first | omega | (simp; done) | (simp; omega))).trans (by go_simp); have c12 : w5.cell? ⟨w.heap.size + 1, 1, none⟩ = some (.int .u64 (loW (-q))) := (hc _ _ (by first | omega | (simp; done) | (simp; omega))).trans (by go_simp); have f5 : ∀ o, w5.frozen? ⟨w.heap.size + 1, o, none⟩ = false := fun o => (hf _ o (by first | omega | (simp; done) | (simp; omega))).trans (by go_simp); have hz5 : w4.heap.size ≤ w5.heap.size := (by have := hb.size; (first | omega | (simp at this; omega))); have hz5' : w.heap.size + 1 < w5.heap.size := (by omega); have B5 := Lib.hid (joinB (show Below w.heap.size w _ by (repeat (first | (with_reducible refine balloc ?_ _) | (with_reducible refine Below.drew ?_) | (with_reducible refine below_drewN ?_ _) | ((with_reducible refine Below.setCell ?_ ?_ _); rotate_left; focus (first | omega | (simp; done) | (simp; omega))))); with_reducible exact B4.out) hb); clear hb hc hf))
    all_goals
      go_wp2_with fail
      go_meet
      exact ⟨by go_simp, by go_simp, fun o => by go_simp, by simp; omega, by ((repeat (first | (with_reducible refine balloc ?_ _) | (with_reducible refine Below.drew ?_) | (with_reducible refine below_drewN ?_ _) | ((with_reducible refine Below.setCell ?_ ?_ _); rotate_left; focus (first | omega | (simp; done) | (simp; omega))))); with_reducible exact B5.out)⟩
  case rest =>
    obtain ⟨d1, d2, d3, d4, d5⟩ := hcut
    have B6 := Lib.hid d5
    clear d5
    clear P D H HO HS c1 c2 c3 c4 c5 c6 c7 c8 f1 f2 f3 B1 B2 B3
    go_wp2
    refine bodyPost_ret (v := .tuple #[.agg #[.int .i64 (hiW (-q - 1)), .int .u64 (loW (-q - 1))], .int .i64 (d - k), .int .i64 0]) (by simp [results, Try.results29, go_sem, d1, d2]) rfl ⟨ret_floor rfl rfl EK.out, ?_⟩
    ((repeat (first | (with_reducible refine balloc ?_ _) | (with_reducible refine Below.drew ?_) | (with_reducible refine below_drewN ?_ _) | ((with_reducible refine Below.setCell ?_ ?_ _); rotate_left; focus (first | omega | (simp; done) | (simp; omega))))); with_reducible exact B6.out)

/-- **How often, and what is left** (to the floor): of a number below 2^126. -/
theorem floor_any (z d : Int) (w : World) (z0 : -85070591730234615865843651857942052864 ≤ z) (z1 : z < 170141183460469231731687303715884105728) (d0 : 1 ≤ d) (d1 : d ≤ 9223372036854775807) :
    Calls Try.prog 29 #[.agg #[.int .i64 (hiW z), .int .u64 (loW z)], .int .i64 d] w fun e w' => e = .returned (.tuple #[.agg #[.int .i64 (hiW (z / d)), .int .u64 (loW (z / d))], .int .i64 (z % d), .int .i64 0]) ∧ Below w.heap.size w w' := by
  by_cases h : 0 ≤ z
  · exact floor_pos z d w h z1 d0 d1
  · by_cases hr : z % d = 0
    · exact floor_neg_even z d w (by omega) (by omega) d0 d1 hr
    · exact floor_neg_odd z d w (by omega) z0 d0 d1 hr

end Go.Proofs.Ytbhpfhggcdccjaa
