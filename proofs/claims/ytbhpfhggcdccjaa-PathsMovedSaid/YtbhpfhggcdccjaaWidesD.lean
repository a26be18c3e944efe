/- The contracts of the package wides of the program, fourth part: the nearest, and a number of one word. -/
import Derived.Test.YtbhpfhggcdccjaaWidesC
namespace Go.Proofs.Ytbhpfhggcdccjaa
open Go.RowKit Go.Proofs.WPlain

/-- The nearest: the floor of twice the one and the other one, by twice the other one. -/
def nearZ (z d : Int) : Int := (2 * z + d) / (2 * d)

theorem nearZ_up {z d : Int} (d0 : 1 ≤ d) (h : d - z % d ≤ z % d) : nearZ z d = z / d + 1 := by
  have a := Int.emod_add_mul_ediv z d
  have b := Int.emod_lt_of_pos z (show 0 < d by omega)
  unfold nearZ
  have e1 : (z / d + 1) * (2 * d) = 2 * (d * (z / d)) + 2 * d := by rw [Int.add_mul, Int.mul_left_comm, Int.mul_comm (z / d) d]; omega
  have e2 : (z / d + 1 + 1) * (2 * d) = 2 * (d * (z / d)) + 2 * d + 2 * d := by rw [Int.add_mul, e1]; omega
  refine div_eq_of (by omega) ?_ ?_
  · rw [e1]; omega
  · rw [e2]; omega

theorem nearZ_down {z d : Int} (d0 : 1 ≤ d) (h : z % d < d - z % d) : nearZ z d = z / d := by
  have a := Int.emod_add_mul_ediv z d
  have b := Int.emod_nonneg z (show d ≠ 0 by omega)
  unfold nearZ
  refine div_eq_of (by omega) ?_ ?_
  · rw [Int.mul_left_comm, Int.mul_comm (z / d) d]; omega
  · rw [Int.add_mul, Int.mul_left_comm, Int.mul_comm (z / d) d]; omega

theorem near_bound {z d : Int} (d0 : 1 ≤ d) (z0 : -85070591730234615865843651857942052863 ≤ z) (z1 : z < 85070591730234615865843651857942052863) :
    -85070591730234615865843651857942052864 ≤ z / d ∧ z / d ≤ 85070591730234615865843651857942052863 := by
  refine ⟨Int.le_ediv_of_mul_le (by omega) ?_, ?_⟩
  · have : (-85070591730234615865843651857942052864 : Int) * d ≤ -85070591730234615865843651857942052864 * 1 := Int.mul_le_mul_of_nonpos_left (by omega) (by omega)
    omega
  · have : z / d < 85070591730234615865843651857942052864 := Int.ediv_lt_of_lt_mul (by omega) (by
      have : (85070591730234615865843651857942052864 : Int) * 1 ≤ 85070591730234615865843651857942052864 * d := Int.mul_le_mul_of_nonneg_left d0 (by omega)
      omega)
    omega

set_option maxHeartbeats 1000000 in
theorem near_down (z d : Int) (w : World) (z0 : -85070591730234615865843651857942052863 ≤ z) (z1 : z < 85070591730234615865843651857942052863) (d0 : 1 ≤ d) (d1 : d ≤ 9223372036854775807) (hr : z % d < d - z % d) :
    Calls Try.prog 26 #[.agg #[.int .i64 (hiW z), .int .u64 (loW z)], .int .i64 d] w fun e w' => e = .returned (.tuple #[.agg #[.int .i64 (hiW (nearZ z d)), .int .u64 (loW (nearZ z d))], .int .i64 0]) ∧ Below w.heap.size w w' := by
  have F := floor_any z d
  rw [nearZ_down d0 hr]
  have r0 : 0 ≤ z % d := Int.emod_nonneg _ (by omega)
  have r1 : z % d < d := Int.emod_lt_of_pos _ (by omega)
  generalize z / d = q at *
  generalize z % d = r at *
  go_enter Try.func26, Try.ntmps26
  go_wp2_with (go_at_call 29; refine (F _ (by omega) (by omega) d0 d1).mono ?_; rintro e w1 ⟨rfl, hb⟩; obtain ⟨hc, hf⟩ := bcell hb; have c1 : w1.cell? ⟨w.heap.size + 1, 0, none⟩ = some (.int .i64 0) := (hc _ _ (by first | omega | (simp; done) | (simp; omega))).trans (by go_simp); have c2 : w1.cell? ⟨w.heap.size + 1, 1, none⟩ = some (.int .u64 0) := (hc _ _ (by first | omega | (simp; done) | (simp; omega))).trans (by go_simp); have f1 : ∀ o, w1.frozen? ⟨w.heap.size + 1, o, none⟩ = false := fun o => (hf _ o (by first | omega | (simp; done) | (simp; omega))).trans (by go_simp); have hz : w.heap.size + 1 < w1.heap.size := (by have := hb.size; (first | omega | (simp at this; omega))); have B1 := Lib.hid (joinB (show Below w.heap.size w _ by (repeat (first | (with_reducible refine balloc ?_ _) | (with_reducible refine Below.drew ?_) | (with_reducible refine below_drewN ?_ _) | ((with_reducible refine Below.setCell ?_ ?_ _); rotate_left; focus (first | omega | (simp; done) | (simp; omega))))); with_reducible exact Below.refl _ _) hb); clear hb hc hf)
  refine bodyPost_ret (v := .tuple #[.agg #[.int .i64 (hiW q), .int .u64 (loW q)], .int .i64 0]) (by simp [results, Try.results26, go_sem, c1, c2, hz]) rfl ⟨rfl, ?_⟩
  ((repeat (first | (with_reducible refine balloc ?_ _) | (with_reducible refine Below.drew ?_) | (with_reducible refine below_drewN ?_ _) | ((with_reducible refine Below.setCell ?_ ?_ _); rotate_left; focus (first | omega | (simp; done) | (simp; omega))))); with_reducible exact B1.out)

set_option maxHeartbeats 1000000 in
theorem near_up (z d : Int) (w : World) (z0 : -85070591730234615865843651857942052863 ≤ z) (z1 : z < 85070591730234615865843651857942052863) (d0 : 1 ≤ d) (d1 : d ≤ 9223372036854775807) (hr : d - z % d ≤ z % d) :
    Calls Try.prog 26 #[.agg #[.int .i64 (hiW z), .int .u64 (loW z)], .int .i64 d] w fun e w' => e = .returned (.tuple #[.agg #[.int .i64 (hiW (nearZ z d)), .int .u64 (loW (nearZ z d))], .int .i64 0]) ∧ Below w.heap.size w w' := by
  have F := floor_any z d
  obtain ⟨q0, q1⟩ := near_bound d0 z0 z1
  rw [nearZ_up d0 hr]
  have r0 : 0 ≤ z % d := Int.emod_nonneg _ (by omega)
  have r1 : z % d < d := Int.emod_lt_of_pos _ (by omega)
  generalize z / d = q at *
  generalize z % d = r at *
  have HO := of_any 1
  have HS := add_any q 1
  go_enter Try.func26, Try.ntmps26
  go_upto_region 3 with (go_at_call 29; refine (F _ (by omega) (by omega) d0 d1).mono ?_; rintro e w1 ⟨rfl, hb⟩; obtain ⟨hc, hf⟩ := bcell hb; have c1 : w1.cell? ⟨w.heap.size + 1, 0, none⟩ = some (.int .i64 0) := (hc _ _ (by first | omega | (simp; done) | (simp; omega))).trans (by go_simp); have c2 : w1.cell? ⟨w.heap.size + 1, 1, none⟩ = some (.int .u64 0) := (hc _ _ (by first | omega | (simp; done) | (simp; omega))).trans (by go_simp); have f1 : ∀ o, w1.frozen? ⟨w.heap.size + 1, o, none⟩ = false := fun o => (hf _ o (by first | omega | (simp; done) | (simp; omega))).trans (by go_simp); have hz : w.heap.size + 1 < w1.heap.size := (by have := hb.size; (first | omega | (simp at this; omega))); have B1 := Lib.hid (joinB (show Below w.heap.size w _ by (repeat (first | (with_reducible refine balloc ?_ _) | (with_reducible refine Below.drew ?_) | (with_reducible refine below_drewN ?_ _) | ((with_reducible refine Below.setCell ?_ ?_ _); rotate_left; focus (first | omega | (simp; done) | (simp; omega))))); with_reducible exact Below.refl _ _) hb); clear hb hc hf)
  go_cut [8] (fun v wx => v = .int .i64 0 ∧ wx.cell? ⟨w1.heap.size, 0, none⟩ = some (.int .i64 (hiW (q + 1))) ∧ wx.cell? ⟨w1.heap.size, 1, none⟩ = some (.int .u64 (loW (q + 1))) ∧ (∀ o, wx.frozen? ⟨w.heap.size + 1, o, none⟩ = false) ∧ w.heap.size + 1 < wx.heap.size ∧ Below w.heap.size w wx ∧ wx.cell? ⟨w.heap.size + 1, 0, none⟩ = some (.int .i64 0) ∧ wx.cell? ⟨w.heap.size + 1, 1, none⟩ = some (.int .u64 0))
  case first =>
    clear F
    go_region_with (first
      | (go_at_call 27; refine (HO _ (by omega) (by omega)).mono ?_; rintro e w4 ⟨rfl, hb⟩; obtain ⟨hc, hf⟩ := bcell hb; have c3 : w4.cell? ⟨w1.heap.size, 0, none⟩ = some (.int .i64 (hiW q)) := (hc _ _ (by first | omega | (simp; done) | (simp; omega))).trans (by go_simp); have c4 : w4.cell? ⟨w1.heap.size, 1, none⟩ = some (.int .u64 (loW q)) := (hc _ _ (by first | omega | (simp; done) | (simp; omega))).trans (by go_simp); have c5 : w4.cell? ⟨w.heap.size + 1, 0, none⟩ = some (.int .i64 0) := (hc _ _ (by first | omega | (simp; done) | (simp; omega))).trans (by go_simp); have c6 : w4.cell? ⟨w.heap.size + 1, 1, none⟩ = some (.int .u64 0) := (hc _ _ (by first | omega | (simp; done) | (simp; omega))).trans (by go_simp); have f4 : ∀ o, w4.frozen? ⟨w.heap.size + 1, o, none⟩ = false := fun o => (hf _ o (by first | omega | (simp; done) | (simp; omega))).trans (by go_simp); have f5 : ∀ o, w4.frozen? ⟨w1.heap.size, o, none⟩ = false := fun o => (hf _ o (by first | omega | (simp; done) | (simp; omega))).trans (by go_simp); have hz4 : w1.heap.size < w4.heap.size := (by have := hb.size; (first | omega | (simp at this; omega))); have hz4' : w.heap.size + 1 < w4.heap.size := (by omega); have B4 := Lib.hid (joinB (show Below w.heap.size w _ by (repeat (first | (with_reducible refine balloc ?_ _) | (with_reducible refine Below.drew ?_) | (with_reducible refine below_drewN ?_ _) | ((with_reducible refine Below.setCell ?_ ?_ _); rotate_left; focus (first | omega | (simp; done) | (simp; omega))))); with_reducible exact B1.out) hb); clear hb hc hf)
      | (go_at_call 30; refine (HS _ (by omega) (by omega) (by omega) (by omega)).mono ?_; rintro e w5 ⟨rfl, hb⟩; obtain ⟨hc, hf⟩ := bcell hb; have c7 : w5.cell? ⟨w1.heap.size, 0, none⟩ = some (.int .i64 (hiW q)) := (hc _ _ (by first | omega | (simp; done) | (simp; omega))).trans (by go_simp); have c8 : w5.cell? ⟨w1.heap.size, 1, none⟩ = some (.int .u64 (loW q)) := (hc _ _ (by first | omega | (simp; done) | (simp; omega))).trans (by go_simp); have c9 : w5.cell? ⟨w.heap.size + 1, 0, none⟩ = some (.int .i64 0) := (hc _ _ (by first | omega | (simp; done) | (simp; omega))).trans (by go_simp); have c10 : w5.cell? ⟨w.heap.size + 1, 1, none⟩ = some (.int .u64 0) := (hc _ _ (by first | omega | (simp; done) | (simp; omega))).trans (by go_simp); have f6 : ∀ o, w5.frozen? ⟨w.heap.size + 1, o, none⟩ = false := fun o => (hf _ o (by first | omega | (simp; done) | (simp; omega))).trans (by go_simp); have f7 : ∀ o, w5.frozen? ⟨w1.heap.size, o, none⟩ = false := fun o => (hf _ o (by first | omega | (simp; done) | (simp; omega))).trans (by go_simp); have hz5 : w4.heap.size ≤ w5.heap.size := (by have := hb.size; (first | omega | (simp at this; omega))); have hz5' : w.heap.size + 1 < w5.heap.size := (by omega); have B5 := Lib.hid (joinB (show Below w.heap.size w _ by (repeat (first | (with_reducible refine balloc ?_ _) | (with_reducible refine Below.drew ?_) | (with_reducible refine below_drewN ?_ _) | ((with_reducible refine Below.setCell ?_ ?_ _); rotate_left; focus (first | omega | (simp; done) | (simp; omega))))); with_reducible exact B4.out) hb); clear hb hc hf))
    all_goals
      go_wp2_with fail
      go_meet
      exact ⟨rfl, by go_simp, by go_simp, fun o => by go_simp, by simp; omega, by ((repeat (first | (with_reducible refine balloc ?_ _) | (with_reducible refine Below.drew ?_) | (with_reducible refine below_drewN ?_ _) | ((with_reducible refine Below.setCell ?_ ?_ _); rotate_left; focus (first | omega | (simp; done) | (simp; omega))))); with_reducible exact B5.out), by go_simp, by go_simp⟩
  case rest =>
    obtain ⟨rfl, e1, e2, e3, e4, e5, e6, e7⟩ := hcut
    have B6 := Lib.hid e5
    clear e5
    clear F HO HS c1 c2 f1 B1
    go_wp2
    refine bodyPost_ret (v := .tuple #[.agg #[.int .i64 (hiW (q + 1)), .int .u64 (loW (q + 1))], .int .i64 0]) (by simp [results, Try.results26, go_sem, e6, e7]) rfl ⟨rfl, ?_⟩
    ((repeat (first | (with_reducible refine balloc ?_ _) | (with_reducible refine Below.drew ?_) | (with_reducible refine below_drewN ?_ _) | ((with_reducible refine Below.setCell ?_ ?_ _); rotate_left; focus (first | omega | (simp; done) | (simp; omega))))); with_reducible exact B6.out)

/-- **The nearest**: of a number below 2^126. -/
theorem near_any (z d : Int) (w : World) (z0 : -85070591730234615865843651857942052863 ≤ z) (z1 : z < 85070591730234615865843651857942052863) (d0 : 1 ≤ d) (d1 : d ≤ 9223372036854775807) :
    Calls Try.prog 26 #[.agg #[.int .i64 (hiW z), .int .u64 (loW z)], .int .i64 d] w fun e w' => e = .returned (.tuple #[.agg #[.int .i64 (hiW (nearZ z d)), .int .u64 (loW (nearZ z d))], .int .i64 0]) ∧ Below w.heap.size w w' := by
  by_cases h : z % d < d - z % d
  · exact near_down z d w z0 z1 d0 d1 h
  · exact near_up z d w z0 z1 d0 d1 (by omega)

set_option maxHeartbeats 1000000 in
/-- A number of one word. -/
theorem int_any (n : Int) (w : World) (n0 : -9223372036854775808 ≤ n) (n1 : n ≤ 9223372036854775807) :
    Calls Try.prog 28 #[.agg #[.int .i64 (hiW n), .int .u64 (loW n)]] w fun e w' => e = .returned (.tuple #[.int .i64 n, .bool true]) ∧ Below w.heap.size w w' := by
  have HO := of_any n
  have e1 : IntKind.i64.wrap (loW n) = n := by rw [IntKind.wrap_i64]; unfold loW; omega
  obtain ⟨l0, l1⟩ := loW_b n
  generalize hiW n = h at *
  generalize loW n = l at *
  go_enter Try.func28, Try.ntmps28
  go_upto_region 2 with fail
  go_cut [11] (fun v wx => v = .bool true ∧ Below w.heap.size w wx)
  case first =>
    go_region_with (go_at_call 27; refine (HO _ n0 n1).mono ?_; rintro e w4 ⟨rfl, hb⟩; obtain ⟨hc, hf⟩ := bcell hb; have c3 : w4.cell? ⟨w.heap.size, 0, none⟩ = some (.int .i64 h) := (hc _ _ (by first | omega | (simp; done) | (simp; omega))).trans (by go_simp); have c4 : w4.cell? ⟨w.heap.size, 1, none⟩ = some (.int .u64 l) := (hc _ _ (by first | omega | (simp; done) | (simp; omega))).trans (by go_simp); have B4 := Lib.hid (joinB (show Below w.heap.size w _ by (repeat (first | (with_reducible refine balloc ?_ _) | (with_reducible refine Below.drew ?_) | (with_reducible refine below_drewN ?_ _) | ((with_reducible refine Below.setCell ?_ ?_ _); rotate_left; focus (first | omega | (simp; done) | (simp; omega))))); with_reducible exact Below.refl _ _) hb); clear hb hc hf)
    all_goals
      go_wp2_with fail
      go_meet
      refine ⟨rfl, ?_⟩; ((repeat (first | (with_reducible refine balloc ?_ _) | (with_reducible refine Below.drew ?_) | (with_reducible refine below_drewN ?_ _) | ((with_reducible refine Below.setCell ?_ ?_ _); rotate_left; focus (first | omega | (simp; done) | (simp; omega))))); with_reducible exact B4.out)
  case rest =>
    obtain ⟨rfl, e5⟩ := hcut
    have B6 := Lib.hid e5
    clear e5
    go_wp2
    go_ret2
    refine ⟨rfl, ?_⟩; ((repeat (first | (with_reducible refine balloc ?_ _) | (with_reducible refine Below.drew ?_) | (with_reducible refine below_drewN ?_ _) | ((with_reducible refine Below.setCell ?_ ?_ _); rotate_left; focus (first | omega | (simp; done) | (simp; omega))))); with_reducible exact B6.out)

end Go.Proofs.Ytbhpfhggcdccjaa
