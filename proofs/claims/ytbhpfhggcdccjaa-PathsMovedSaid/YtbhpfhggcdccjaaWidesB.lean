/- The contracts of the package wides of the program, second part: sums, and what is left of them. -/
import Derived.Test.YtbhpfhggcdccjaaWides
namespace Go.Proofs.Ytbhpfhggcdccjaa
open Go.RowKit Go.Proofs.WPlain

set_option maxHeartbeats 1000000 in
theorem add_any (a b : Int) (w : World) (a0 : -85070591730234615865843651857942052864 ≤ a) (a1 : a ≤ 85070591730234615865843651857942052863) (b0 : -85070591730234615865843651857942052864 ≤ b) (b1 : b ≤ 85070591730234615865843651857942052863) :
    Calls Try.prog 30 #[.agg #[.int .i64 (hiW a), .int .u64 (loW a)], .agg #[.int .i64 (hiW b), .int .u64 (loW b)]] w fun e w' => e = .returned (.tuple #[.agg #[.int .i64 (hiW (a + b)), .int .u64 (loW (a + b))], .int .i64 0]) ∧ Below w.heap.size w w' := by
  obtain ⟨x0, x1⟩ := loW_b a
  obtain ⟨y0, y1⟩ := loW_b b
  have p0 : -4611686018427387904 ≤ hiW a ∧ hiW a ≤ 4611686018427387903 := by unfold hiW; omega
  have q0 : -4611686018427387904 ≤ hiW b ∧ hiW b ≤ 4611686018427387903 := by unfold hiW; omega
  obtain ⟨p0, p1⟩ := p0
  obtain ⟨q0, q1⟩ := q0
  have ea := hiloW a
  have eb := hiloW b
  generalize hiW a = p at *
  generalize loW a = x at *
  generalize hiW b = q at *
  generalize loW b = y at *
  obtain ⟨s, hs⟩ : ∃ s : Int, (x + y + 0) % 18446744073709551616 = s := ⟨_, rfl⟩
  obtain ⟨k, hk⟩ : ∃ s : Int, (x + y + 0) / 18446744073709551616 = s := ⟨_, rfl⟩
  have A1 : ∀ w, (callFunc 35 #[.int .u64 x, .int .u64 y, .int .u64 0]).run Try.prog w = .ok (.value (.tuple #[.int .u64 s, .int .u64 k])) w := fun w => by
    rw [add64_run x y 0 (by omega) (by omega) (by omega) (by omega) (by omega) (by omega), hs, hk]
  have k0 : 0 ≤ k := by omega
  have k1 : k ≤ 1 := by omega
  have E1 : Hid (p + q + k = hiW (a + b)) := by
    have : p + q + k = hiW (a + b) := by unfold hiW; omega
    exact this
  have E2 : Hid (s = loW (a + b)) := by
    have : s = loW (a + b) := by unfold loW; omega
    exact this
  clear hs hk ea eb a0 a1 b0 b1
  by_cases hp : p < 0 <;> by_cases hq : q < 0
  all_goals
    by_cases hpq : p + q + k < 0
    all_goals first
      | (exfalso; omega)
      | skip
    all_goals
      go_enter Try.func30, Try.ntmps30
      go_wp2
      refine bodyPost_ret (v := .tuple #[.agg #[.int .i64 (p + q + k), .int .u64 s], .int .i64 0]) (by simp [results, Try.results30, go_sem]) rfl ⟨ret_wide_e E1.out E2.out, ?_⟩
      ((repeat (first | (with_reducible refine balloc ?_ _) | (with_reducible refine Below.drew ?_) | (with_reducible refine below_drewN ?_ _) | ((with_reducible refine Below.setCell ?_ ?_ _); rotate_left; focus (first | omega | (simp; done) | (simp; omega))))); with_reducible exact Below.refl _ _)

set_option maxHeartbeats 1000000 in
theorem sub_any (a b : Int) (w : World) (a0 : -85070591730234615865843651857942052864 ≤ a) (a1 : a ≤ 85070591730234615865843651857942052863) (b0 : -85070591730234615865843651857942052864 ≤ b) (b1 : b ≤ 85070591730234615865843651857942052863) :
    Calls Try.prog 34 #[.agg #[.int .i64 (hiW a), .int .u64 (loW a)], .agg #[.int .i64 (hiW b), .int .u64 (loW b)]] w fun e w' => e = .returned (.tuple #[.agg #[.int .i64 (hiW (a - b)), .int .u64 (loW (a - b))], .int .i64 0]) ∧ Below w.heap.size w w' := by
  obtain ⟨x0, x1⟩ := loW_b a
  obtain ⟨y0, y1⟩ := loW_b b
  have p0 : -4611686018427387904 ≤ hiW a ∧ hiW a ≤ 4611686018427387903 := by unfold hiW; omega
  have q0 : -4611686018427387904 ≤ hiW b ∧ hiW b ≤ 4611686018427387903 := by unfold hiW; omega
  obtain ⟨p0, p1⟩ := p0
  obtain ⟨q0, q1⟩ := q0
  have ea := hiloW a
  have eb := hiloW b
  generalize hiW a = p at *
  generalize loW a = x at *
  generalize hiW b = q at *
  generalize loW b = y at *
  obtain ⟨s, hs⟩ : ∃ s : Int, (x - y - 0) % 18446744073709551616 = s := ⟨_, rfl⟩
  obtain ⟨k, hk⟩ : ∃ s : Int, (if x < y + 0 then (1 : Int) else 0) = s := ⟨_, rfl⟩
  have A1 : ∀ w, (callFunc 38 #[.int .u64 x, .int .u64 y, .int .u64 0]).run Try.prog w = .ok (.value (.tuple #[.int .u64 s, .int .u64 k])) w := fun w => by
    rw [sub64_run x y 0 (by omega) (by omega) (by omega) (by omega) (by omega) (by omega), hs, hk]
  have k0 : 0 ≤ k := by split at hk <;> omega
  have k1 : k ≤ 1 := by split at hk <;> omega
  have E1 : Hid (p - q - k = hiW (a - b)) := by
    have : p - q - k = hiW (a - b) := by unfold hiW; split at hk <;> omega
    exact this
  have E2 : Hid (s = loW (a - b)) := by
    have : s = loW (a - b) := by unfold loW; omega
    exact this
  clear hs hk ea eb a0 a1 b0 b1
  by_cases hp : p < 0 <;> by_cases hq : q < 0
  all_goals
    by_cases hpq : p - q - k < 0
    all_goals first
      | (exfalso; omega)
      | skip
    all_goals
      go_enter Try.func34, Try.ntmps34
      go_wp2
      refine bodyPost_ret (v := .tuple #[.agg #[.int .i64 (p - q - k), .int .u64 s], .int .i64 0]) (by simp [results, Try.results34, go_sem]) rfl ⟨ret_wide_e E1.out E2.out, ?_⟩
      ((repeat (first | (with_reducible refine balloc ?_ _) | (with_reducible refine Below.drew ?_) | (with_reducible refine below_drewN ?_ _) | ((with_reducible refine Below.setCell ?_ ?_ _); rotate_left; focus (first | omega | (simp; done) | (simp; omega))))); with_reducible exact Below.refl _ _)

theorem ret_int_bool {a c : Int} {b d : Bool} (h1 : a = c) (h2 : b = d) : Ending.returned (.tuple #[.int .i64 a, .bool b]) = .returned (.tuple #[.int .i64 c, .bool d]) := by rw [h1, h2]

end Go.Proofs.Ytbhpfhggcdccjaa
