/- The contracts of the small functions of the package paths of the program: how often a curve is halved. -/
import Derived.Test.YtbhpfhggcdccjaaPathB
namespace Go.Proofs.Ytbhpfhggcdccjaa
open Go.RowKit Go.Proofs.WPlain

/-- How often a curve is halved, by three times its greatest second difference. -/
def levelZ (m : Int) : Nat :=
  if m ≤ 32768 then 0 else if m ≤ 131072 then 1 else if m ≤ 524288 then 2 else if m ≤ 2097152 then 3 else if m ≤ 8388608 then 4 else if m ≤ 33554432 then 5 else 6

theorem levelZ_le (m : Int) : levelZ m ≤ 6 := by unfold levelZ; repeat' split
                                                 all_goals omega

theorem ret_i {k : IntKind} {a b : Int} (h : a = b) : Ending.returned (.int k a) = .returned (.int k b) := by rw [h]

set_option maxHeartbeats 2000000 in
theorem level_any (a b c d e f g h : Int) (w : World) (a0 : -2147483648 ≤ a) (a1 : a ≤ 2147483647) (b0 : -2147483648 ≤ b) (b1 : b ≤ 2147483647) (c0 : -2147483648 ≤ c) (c1 : c ≤ 2147483647) (d0 : -2147483648 ≤ d) (d1 : d ≤ 2147483647)
    (e0 : -2147483648 ≤ e) (e1 : e ≤ 2147483647) (f0 : -2147483648 ≤ f) (f1 : f ≤ 2147483647) (g0 : -2147483648 ≤ g) (g1 : g ≤ 2147483647) (h0 : -2147483648 ≤ h) (h1 : h ≤ 2147483647) :
    Calls Try.prog 20 #[.agg #[.int .i64 a, .int .i64 b, .int .i64 c, .int .i64 d, .int .i64 e, .int .i64 f, .int .i64 g, .int .i64 h]] w fun e' w' => e' = .returned (.int .i64 (levelZ (3 * bendZ a b c d e f g h) : Nat)) ∧ Below w.heap.size w w' := by
  have BB := bend_any a b c d e f g h
  obtain ⟨m0, m1⟩ := bendZ_b a b c d e f g h a0 a1 b0 b1 c0 c1 d0 d1 e0 e1 f0 f1 g0 g1 h0 h1
  generalize bendZ a b c d e f g h = m at *
  go_enter Try.func20, Try.ntmps20
  go_wp2_with (go_at_call 24; (with_reducible refine (BB _ a0 a1 b0 b1 c0 c1 d0 d1 e0 e1 f0 f1 g0 g1 h0 h1).mono ?_); rintro e w1 ⟨rfl, hb⟩; have B1 := Lib.hid (joinB (show Below w.heap.size w _ by (repeat (first | (with_reducible refine balloc ?_ _) | (with_reducible refine Below.drew ?_) | (with_reducible refine below_drewN ?_ _) | ((with_reducible refine Below.setCell ?_ ?_ _); rotate_left; focus (first | omega | (simp; done) | (simp; omega))))); with_reducible exact Below.refl _ _) hb); clear hb)
  obtain ⟨t, ht⟩ : ∃ t : Int, 3 * m = t := ⟨_, rfl⟩
  go_loop [2] (fun v => ∃ k : Nat, k ≤ 6 ∧ v = .int .i64 k ∧ Hid (∀ j, j < k → 32768 * 4 ^ j < 3 * m)) (fun v => 6 - (intOf v).toNat)
  case atStart => exact ⟨0, by omega, rfl, fun j hj => by omega⟩
  case round =>
    obtain ⟨k, hk, rfl, hkj⟩ := hrel
    have hcase : k = 0 ∨ k = 1 ∨ k = 2 ∨ k = 3 ∨ k = 4 ∨ k = 5 ∨ k = 6 := by omega
    clear a0 a1 b0 b1 c0 c1 d0 d1 e0 e1 f0 f1 g0 g1 h0 h1 BB
    rcases hcase with rfl | rfl | rfl | rfl | rfl | rfl | rfl
    · go_wp2
      · have ht2 : 32768 < t := by assumption
        go_round
        case rel => exact ⟨1, by omega, rfl, fun j hj => by (rcases (show j = 0 by omega) with rfl <;> omega)⟩
        case measure => simp [intOf]
      · have ht2 : t ≤ 32768 := by assumption
        have hL : (0 : Int) = ((levelZ t : Nat) : Int) := by
          unfold levelZ; repeat' split
          all_goals omega
        go_ret
        exact ⟨ret_i hL, B1.out⟩
    · go_wp2
      · have ht2 : 131072 < t := by assumption
        go_round
        case rel => exact ⟨2, by omega, rfl, fun j hj => by (rcases (show j = 0 ∨ j = 1 by omega) with rfl | rfl <;> omega)⟩
        case measure => simp [intOf]
      · have ht2 : t ≤ 131072 := by assumption
        have hL : (1 : Int) = ((levelZ t : Nat) : Int) := by
          have hp := hkj.out 0 (by omega); unfold levelZ; repeat' split
          all_goals omega
        go_ret
        exact ⟨ret_i hL, B1.out⟩
    · go_wp2
      · have ht2 : 524288 < t := by assumption
        go_round
        case rel => exact ⟨3, by omega, rfl, fun j hj => by (rcases (show j = 0 ∨ j = 1 ∨ j = 2 by omega) with rfl | rfl | rfl <;> omega)⟩
        case measure => simp [intOf]
      · have ht2 : t ≤ 524288 := by assumption
        have hL : (2 : Int) = ((levelZ t : Nat) : Int) := by
          have hp := hkj.out 1 (by omega); unfold levelZ; repeat' split
          all_goals omega
        go_ret
        exact ⟨ret_i hL, B1.out⟩
    · go_wp2
      · have ht2 : 2097152 < t := by assumption
        go_round
        case rel => exact ⟨4, by omega, rfl, fun j hj => by (rcases (show j = 0 ∨ j = 1 ∨ j = 2 ∨ j = 3 by omega) with rfl | rfl | rfl | rfl <;> omega)⟩
        case measure => simp [intOf]
      · have ht2 : t ≤ 2097152 := by assumption
        have hL : (3 : Int) = ((levelZ t : Nat) : Int) := by
          have hp := hkj.out 2 (by omega); unfold levelZ; repeat' split
          all_goals omega
        go_ret
        exact ⟨ret_i hL, B1.out⟩
    · go_wp2
      · have ht2 : 8388608 < t := by assumption
        go_round
        case rel => exact ⟨5, by omega, rfl, fun j hj => by (rcases (show j = 0 ∨ j = 1 ∨ j = 2 ∨ j = 3 ∨ j = 4 by omega) with rfl | rfl | rfl | rfl | rfl <;> omega)⟩
        case measure => simp [intOf]
      · have ht2 : t ≤ 8388608 := by assumption
        have hL : (4 : Int) = ((levelZ t : Nat) : Int) := by
          have hp := hkj.out 3 (by omega); unfold levelZ; repeat' split
          all_goals omega
        go_ret
        exact ⟨ret_i hL, B1.out⟩
    · go_wp2
      · have ht2 : 33554432 < t := by assumption
        go_round
        case rel => exact ⟨6, by omega, rfl, fun j hj => by (rcases (show j = 0 ∨ j = 1 ∨ j = 2 ∨ j = 3 ∨ j = 4 ∨ j = 5 by omega) with rfl | rfl | rfl | rfl | rfl | rfl <;> omega)⟩
        case measure => simp [intOf]
      · have ht2 : t ≤ 33554432 := by assumption
        have hL : (5 : Int) = ((levelZ t : Nat) : Int) := by
          have hp := hkj.out 4 (by omega); unfold levelZ; repeat' split
          all_goals omega
        go_ret
        exact ⟨ret_i hL, B1.out⟩
    · go_wp2
      have hL : (6 : Int) = ((levelZ t : Nat) : Int) := by
        have hp := hkj.out 5 (by omega); unfold levelZ; repeat' split
        all_goals omega
      go_ret
      exact ⟨ret_i hL, B1.out⟩

end Go.Proofs.Ytbhpfhggcdccjaa
