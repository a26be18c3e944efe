/- The contracts of the small functions of the package paths of the program. -/
import Derived.Test.YtbhpfhggcdccjaaWidesD
import Derived.StillTailTactics
import Derived.RegionTactic
import Derived.BigRegion
namespace Go.Proofs.Ytbhpfhggcdccjaa
open Go.RowKit Go.Proofs.WPlain

theorem nearZ_bound {z d : Int} (d0 : 1 ≤ d) (z0 : -4611686018427387904 ≤ z) (z1 : z ≤ 4611686018427387904) : -4611686018427387904 ≤ nearZ z d ∧ nearZ z d ≤ 4611686018427387905 := by
  unfold nearZ
  refine ⟨Int.le_ediv_of_mul_le (by omega) ?_, ?_⟩
  · have : (-4611686018427387904 : Int) * (2 * d) ≤ -4611686018427387904 * 2 := Int.mul_le_mul_of_nonpos_left (by omega) (by omega)
    omega
  · have : (2 * z + d) / (2 * d) < 4611686018427387906 := Int.ediv_lt_of_lt_mul (by omega) (by
      have : (4611686018427387905 : Int) * 2 ≤ 4611686018427387905 * (2 * d) := Int.mul_le_mul_of_nonneg_left (by omega) (by omega)
      omega)
    omega

set_option maxHeartbeats 1000000 in
/-- So many 65536ths, by so many, as 256ths. -/
theorem near256_any (n b : Int) (w : World) (n0 : -4611686018427387904 ≤ n) (n1 : n ≤ 4611686018427387904) (b0 : 1 ≤ b) (b1 : b ≤ 1099511627776) :
    Calls Try.prog 25 #[.int .i64 n, .int .i64 b] w fun e w' => e = .returned (.int .i64 (nearZ n (b * 256))) ∧ Below w.heap.size w w' := by
  have O := of_any n
  have Nn := near_any n (b * 256)
  obtain ⟨q0, q1⟩ := nearZ_bound (z := n) (d := b * 256) (by omega) n0 n1
  have I := int_any (nearZ n (b * 256))
  generalize nearZ n (b * 256) = q at *
  obtain ⟨d, hd⟩ : ∃ d : Int, b * 256 = d := ⟨_, rfl⟩
  rw [hd] at Nn
  have d0 : 1 ≤ d := by omega
  have d1 : d ≤ 281474976710656 := by omega
  go_enter Try.func25, Try.ntmps25
  go_wp2_with (first
    | (go_at_call 27; refine (O _ (by omega) (by omega)).mono ?_; rintro e w1 ⟨rfl, hb⟩; have hz1 : w.heap.size ≤ w1.heap.size := (by have := hb.size; (first | omega | (simp at this; omega))); have B1 := Lib.hid (joinB (show Below w.heap.size w _ by (repeat (first | (with_reducible refine balloc ?_ _) | (with_reducible refine Below.drew ?_) | (with_reducible refine below_drewN ?_ _) | ((with_reducible refine Below.setCell ?_ ?_ _); rotate_left; focus (first | omega | (simp; done) | (simp; omega))))); with_reducible exact Below.refl _ _) hb); clear hb)
    | (go_at_call 26; refine (Nn _ (by omega) (by omega) (by omega) (by omega)).mono ?_; rintro e w2 ⟨rfl, hb⟩; have hz2 : w1.heap.size ≤ w2.heap.size := (by have := hb.size; (first | omega | (simp at this; omega))); have B2 := Lib.hid (joinB (show Below w.heap.size w _ by (repeat (first | (with_reducible refine balloc ?_ _) | (with_reducible refine Below.drew ?_) | (with_reducible refine below_drewN ?_ _) | ((with_reducible refine Below.setCell ?_ ?_ _); rotate_left; focus (first | omega | (simp; done) | (simp; omega))))); with_reducible exact B1.out) hb); clear hb)
    | (go_at_call 28; refine (I _ (by omega) (by omega)).mono ?_; rintro e w3 ⟨rfl, hb⟩; have hz3 : w2.heap.size ≤ w3.heap.size := (by have := hb.size; (first | omega | (simp at this; omega))); have B3 := Lib.hid (joinB (show Below w.heap.size w _ by (repeat (first | (with_reducible refine balloc ?_ _) | (with_reducible refine Below.drew ?_) | (with_reducible refine below_drewN ?_ _) | ((with_reducible refine Below.setCell ?_ ?_ _); rotate_left; focus (first | omega | (simp; done) | (simp; omega))))); with_reducible exact B2.out) hb); clear hb))
  go_ret
  refine ⟨rfl, ?_⟩; ((repeat (first | (with_reducible refine balloc ?_ _) | (with_reducible refine Below.drew ?_) | (with_reducible refine below_drewN ?_ _) | ((with_reducible refine Below.setCell ?_ ?_ _); rotate_left; focus (first | omega | (simp; done) | (simp; omega))))); with_reducible exact B3.out)

set_option maxHeartbeats 1000000 in
/-- The places of a segment. -/
theorem at0_any (k a b c d e f : Int) (w : World) (u0 : -2147483648 ≤ a) (u1 : a ≤ 2147483647) (v0 : -2147483648 ≤ b) (v1 : b ≤ 2147483647) :
    Calls Try.prog 19 #[.agg #[.int .u8 k, .int .i32 a, .int .i32 b, .int .i32 c, .int .i32 d, .int .i32 e, .int .i32 f], .int .i64 0] w fun e' w' => e' = .returned (.agg #[.int .i64 a, .int .i64 b]) ∧ Below w.heap.size w w' := by
  go_enter Try.func19, Try.ntmps19
  go_wp2
  go_region
  go_wp2
  refine bodyPost_ret (v := .agg #[.int .i64 a, .int .i64 b]) (by simp [results, Try.results19, go_sem]) rfl ⟨rfl, ?_⟩
  ((repeat (first | (with_reducible refine balloc ?_ _) | (with_reducible refine Below.drew ?_) | (with_reducible refine below_drewN ?_ _) | ((with_reducible refine Below.setCell ?_ ?_ _); rotate_left; focus (first | omega | (simp; done) | (simp; omega))))); with_reducible exact Below.refl _ _)

set_option maxHeartbeats 1000000 in
/-- The places of a segment. -/
theorem at1_any (k a b c d e f : Int) (w : World) (u0 : -2147483648 ≤ c) (u1 : c ≤ 2147483647) (v0 : -2147483648 ≤ d) (v1 : d ≤ 2147483647) :
    Calls Try.prog 19 #[.agg #[.int .u8 k, .int .i32 a, .int .i32 b, .int .i32 c, .int .i32 d, .int .i32 e, .int .i32 f], .int .i64 1] w fun e' w' => e' = .returned (.agg #[.int .i64 c, .int .i64 d]) ∧ Below w.heap.size w w' := by
  go_enter Try.func19, Try.ntmps19
  go_wp2
  go_region
  go_wp2
  refine bodyPost_ret (v := .agg #[.int .i64 c, .int .i64 d]) (by simp [results, Try.results19, go_sem]) rfl ⟨rfl, ?_⟩
  ((repeat (first | (with_reducible refine balloc ?_ _) | (with_reducible refine Below.drew ?_) | (with_reducible refine below_drewN ?_ _) | ((with_reducible refine Below.setCell ?_ ?_ _); rotate_left; focus (first | omega | (simp; done) | (simp; omega))))); with_reducible exact Below.refl _ _)

set_option maxHeartbeats 1000000 in
/-- The places of a segment. -/
theorem at2_any (k a b c d e f : Int) (w : World) (u0 : -2147483648 ≤ e) (u1 : e ≤ 2147483647) (v0 : -2147483648 ≤ f) (v1 : f ≤ 2147483647) :
    Calls Try.prog 19 #[.agg #[.int .u8 k, .int .i32 a, .int .i32 b, .int .i32 c, .int .i32 d, .int .i32 e, .int .i32 f], .int .i64 2] w fun e' w' => e' = .returned (.agg #[.int .i64 e, .int .i64 f]) ∧ Below w.heap.size w w' := by
  go_enter Try.func19, Try.ntmps19
  go_wp2
  go_region
  go_wp2
  refine bodyPost_ret (v := .agg #[.int .i64 e, .int .i64 f]) (by simp [results, Try.results19, go_sem]) rfl ⟨rfl, ?_⟩
  ((repeat (first | (with_reducible refine balloc ?_ _) | (with_reducible refine Below.drew ?_) | (with_reducible refine below_drewN ?_ _) | ((with_reducible refine Below.setCell ?_ ?_ _); rotate_left; focus (first | omega | (simp; done) | (simp; omega))))); with_reducible exact Below.refl _ _)

set_option maxHeartbeats 1000000 in
theorem placeDot_any (x y : Int) (w : World) (x0 : -4611686018427387904 ≤ x) (x1 : x ≤ 4611686018427387904) (y0 : -4611686018427387904 ≤ y) (y1 : y ≤ 4611686018427387904) :
    Calls Try.prog 22 #[.agg #[.int .i64 x, .int .i64 y]] w fun e w' => e = .returned (.agg #[.int .i64 (nearZ x 256), .int .i64 (nearZ y 256)]) ∧ Below w.heap.size w w' := by
  have X := near256_any x 1
  have Y := near256_any y 1
  simp only [Int.one_mul] at X Y
  generalize nearZ x 256 = u at *
  generalize nearZ y 256 = v at *
  go_enter Try.func22, Try.ntmps22
  go_wp2
  go_region_with (first
    | (go_at_call 25; (with_reducible refine (X _ x0 x1 (by omega) (by omega)).mono ?_); rintro e w1 ⟨rfl, hb⟩; obtain ⟨hc, hf⟩ := bcell hb; have k0 : w1.cell? ⟨w.heap.size, 0, none⟩ = some (.int .i64 x) := (hc _ _ (by first | omega | (simp; done) | (simp; omega))).trans (by go_simp); have k1 : w1.cell? ⟨w.heap.size, 1, none⟩ = some (.int .i64 y) := (hc _ _ (by first | omega | (simp; done) | (simp; omega))).trans (by go_simp); have k2 : w1.cell? ⟨w.heap.size + 1, 0, none⟩ = some (.int .i64 0) := (hc _ _ (by first | omega | (simp; done) | (simp; omega))).trans (by go_simp); have k3 : w1.cell? ⟨w.heap.size + 1, 1, none⟩ = some (.int .i64 0) := (hc _ _ (by first | omega | (simp; done) | (simp; omega))).trans (by go_simp); have g0 : ∀ o, w1.frozen? ⟨w.heap.size + 1, o, none⟩ = false := fun o => (hf _ o (by first | omega | (simp; done) | (simp; omega))).trans (by go_simp); have hz : w.heap.size + 1 < w1.heap.size := (by have := hb.size; (first | omega | (simp at this; omega))); have hz0 : w.heap.size < w1.heap.size := (by omega); have B1 := Lib.hid (joinB (show Below w.heap.size w _ by (repeat (first | (with_reducible refine balloc ?_ _) | (with_reducible refine Below.drew ?_) | (with_reducible refine below_drewN ?_ _) | ((with_reducible refine Below.setCell ?_ ?_ _); rotate_left; focus (first | omega | (simp; done) | (simp; omega))))); first | with_reducible exact B1.out | with_reducible exact hB.out | with_reducible exact Below.refl _ _) hb); clear hb hc hf)
    | (go_at_call 25; (with_reducible refine (Y _ y0 y1 (by omega) (by omega)).mono ?_); rintro e w1 ⟨rfl, hb⟩; obtain ⟨hc, hf⟩ := bcell hb; have k0 : w1.cell? ⟨w.heap.size, 0, none⟩ = some (.int .i64 x) := (hc _ _ (by first | omega | (simp; done) | (simp; omega))).trans (by go_simp); have k1 : w1.cell? ⟨w.heap.size, 1, none⟩ = some (.int .i64 y) := (hc _ _ (by first | omega | (simp; done) | (simp; omega))).trans (by go_simp); have k2 : w1.cell? ⟨w.heap.size + 1, 0, none⟩ = some (.int .i64 0) := (hc _ _ (by first | omega | (simp; done) | (simp; omega))).trans (by go_simp); have k3 : w1.cell? ⟨w.heap.size + 1, 1, none⟩ = some (.int .i64 0) := (hc _ _ (by first | omega | (simp; done) | (simp; omega))).trans (by go_simp); have g0 : ∀ o, w1.frozen? ⟨w.heap.size + 1, o, none⟩ = false := fun o => (hf _ o (by first | omega | (simp; done) | (simp; omega))).trans (by go_simp); have hz : w.heap.size + 1 < w1.heap.size := (by have := hb.size; (first | omega | (simp at this; omega))); have hz0 : w.heap.size < w1.heap.size := (by omega); have B1 := Lib.hid (joinB (show Below w.heap.size w _ by (repeat (first | (with_reducible refine balloc ?_ _) | (with_reducible refine Below.drew ?_) | (with_reducible refine below_drewN ?_ _) | ((with_reducible refine Below.setCell ?_ ?_ _); rotate_left; focus (first | omega | (simp; done) | (simp; omega))))); first | with_reducible exact B1.out | with_reducible exact hB.out | with_reducible exact Below.refl _ _) hb); clear hb hc hf))
  all_goals
    go_wp2
    (refine bodyPost_ret (v := .agg #[.int .i64 u, .int .i64 v]) (by simp [results, Try.results22, go_sem, *]) rfl ⟨rfl, ?_⟩; (repeat (first | (with_reducible refine balloc ?_ _) | (with_reducible refine Below.drew ?_) | (with_reducible refine below_drewN ?_ _) | ((with_reducible refine Below.setCell ?_ ?_ _); rotate_left; focus (first | omega | (simp; done) | (simp; omega))))); with_reducible exact B1.out)

end Go.Proofs.Ytbhpfhggcdccjaa
