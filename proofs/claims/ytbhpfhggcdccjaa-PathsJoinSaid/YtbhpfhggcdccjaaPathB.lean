/- The contracts of the small functions of the package paths of the program: curves. -/
import Derived.Test.YtbhpfhggcdccjaaPathA
import Derived.Laws.Cover1
namespace Go.Proofs.Ytbhpfhggcdccjaa
open Go.RowKit Go.Proofs.WPlain

theorem max_if (x y : Int) : (if y > x then y else x) = max x y := by
  rw [Int.max_def]; split <;> split <;> omega

@[go_sem] theorem run_max_int5 {P : Program} (w : World) (ts : Array TypeId) (t : TypeId) (k1 k2 k3 k4 k5 : IntKind) (x y z u v : Int) :
    (Builtin.max_ ts t #[.int k1 x, .int k2 y, .int k3 z, .int k4 u, .int k5 v]).run P w = .ok (.int k1 (max (max (max (max x y) z) u) v)) w := by
  simp only [← max_if]
  simp [Builtin.max_, Builtin.max2]

/-- The greatest second difference of four places, without its sign. -/
def bendZ (a b c d e f g h : Int) : Int :=
  max 0 (max (a - 2 * c + e) (max (-(a - 2 * c + e)) (max (b - 2 * d + f) (max (-(b - 2 * d + f)) (max (c - 2 * e + g) (max (-(c - 2 * e + g)) (max (d - 2 * f + h) (-(d - 2 * f + h)))))))))

theorem bendZ_b (a b c d e f g h : Int) (a0 : -2147483648 ≤ a) (a1 : a ≤ 2147483647) (b0 : -2147483648 ≤ b) (b1 : b ≤ 2147483647) (c0 : -2147483648 ≤ c) (c1 : c ≤ 2147483647) (d0 : -2147483648 ≤ d) (d1 : d ≤ 2147483647)
    (e0 : -2147483648 ≤ e) (e1 : e ≤ 2147483647) (f0 : -2147483648 ≤ f) (f1 : f ≤ 2147483647) (g0 : -2147483648 ≤ g) (g1 : g ≤ 2147483647) (h0 : -2147483648 ≤ h) (h1 : h ≤ 2147483647) : 0 ≤ bendZ a b c d e f g h ∧ bendZ a b c d e f g h ≤ 8589934592 := by
  unfold bendZ
  refine ⟨Int.le_max_left _ _, ?_⟩
  repeat (refine Int.max_le.2 ⟨by omega, ?_⟩)
  omega

/-- Eight numbers that lie in a block. -/
def Eight (W : World) (k : Nat) (a b c d e f g h : Int) : Prop :=
  W.cell? ⟨k, 0, none⟩ = some (.int .i64 a) ∧ W.cell? ⟨k, 1, none⟩ = some (.int .i64 b) ∧ W.cell? ⟨k, 2, none⟩ = some (.int .i64 c) ∧ W.cell? ⟨k, 3, none⟩ = some (.int .i64 d) ∧
  W.cell? ⟨k, 4, none⟩ = some (.int .i64 e) ∧ W.cell? ⟨k, 5, none⟩ = some (.int .i64 f) ∧ W.cell? ⟨k, 6, none⟩ = some (.int .i64 g) ∧ W.cell? ⟨k, 7, none⟩ = some (.int .i64 h)

theorem Eight.below {W W' : World} {k : Nat} {a b c d e f g h : Int} (H : Eight W k a b c d e f g h) {n : Nat} (hb : Below n W W') (hk : k < n) : Eight W' k a b c d e f g h := by
  obtain ⟨h0, h1, h2, h3, h4, h5, h6, h7⟩ := H
  exact ⟨(hb.cell (p := ⟨k, 0, none⟩) hk).trans h0, (hb.cell (p := ⟨k, 1, none⟩) hk).trans h1, (hb.cell (p := ⟨k, 2, none⟩) hk).trans h2, (hb.cell (p := ⟨k, 3, none⟩) hk).trans h3,
    (hb.cell (p := ⟨k, 4, none⟩) hk).trans h4, (hb.cell (p := ⟨k, 5, none⟩) hk).trans h5, (hb.cell (p := ⟨k, 6, none⟩) hk).trans h6, (hb.cell (p := ⟨k, 7, none⟩) hk).trans h7⟩

/-- What the loop has found, behind so many rounds. -/
def bendTill (k : Nat) (a b c d e f g h : Int) : Int :=
  match k with
  | 0 => 0
  | 1 => max 0 (max (a - 2 * c + e) (max (-(a - 2 * c + e)) (max (b - 2 * d + f) (-(b - 2 * d + f)))))
  | _ => max (max 0 (max (a - 2 * c + e) (max (-(a - 2 * c + e)) (max (b - 2 * d + f) (-(b - 2 * d + f)))))) (max (c - 2 * e + g) (max (-(c - 2 * e + g)) (max (d - 2 * f + h) (-(d - 2 * f + h)))))

theorem bendTill_two (a b c d e f g h : Int) : bendTill 2 a b c d e f g h = bendZ a b c d e f g h := by
  simp [bendTill, bendZ]

set_option maxHeartbeats 2000000 in
theorem bend_any (a b c d e f g h : Int) (w : World) (a0 : -2147483648 ≤ a) (a1 : a ≤ 2147483647) (b0 : -2147483648 ≤ b) (b1 : b ≤ 2147483647) (c0 : -2147483648 ≤ c) (c1 : c ≤ 2147483647) (d0 : -2147483648 ≤ d) (d1 : d ≤ 2147483647)
    (e0 : -2147483648 ≤ e) (e1 : e ≤ 2147483647) (f0 : -2147483648 ≤ f) (f1 : f ≤ 2147483647) (g0 : -2147483648 ≤ g) (g1 : g ≤ 2147483647) (h0 : -2147483648 ≤ h) (h1 : h ≤ 2147483647) :
    Calls Try.prog 24 #[.agg #[.int .i64 a, .int .i64 b, .int .i64 c, .int .i64 d, .int .i64 e, .int .i64 f, .int .i64 g, .int .i64 h]] w fun e' w' => e' = .returned (.int .i64 (bendZ a b c d e f g h)) ∧ Below w.heap.size w w' := by
  go_enter Try.func24, Try.ntmps24
  go_wp2
  go_loopw [2, 9] (fun m i wr => ∃ k : Nat, k ≤ 2 ∧ i = .int .i64 k ∧ m = .int .i64 (bendTill k a b c d e f g h) ∧ Eight wr w.heap.size a b c d e f g h ∧ Hid (Below w.heap.size w wr) ∧ w.heap.size < wr.heap.size) (fun _ i _ => 2 - (intOf i).toNat)
  case atStart =>
    refine ⟨0, by omega, rfl, rfl, ⟨by go_simp, by go_simp, by go_simp, by go_simp, by go_simp, by go_simp, by go_simp, by go_simp⟩, Lib.hid (show Below _ _ _ from ?_), by simp⟩
    ((repeat (first | (with_reducible refine balloc ?_ _) | (with_reducible refine Below.drew ?_) | (with_reducible refine below_drewN ?_ _) | ((with_reducible refine Below.setCell ?_ ?_ _); rotate_left; focus (first | omega | (simp; done) | (simp; omega))))); with_reducible exact Below.refl _ _)
  case round =>
    obtain ⟨k, hk, rfl, rfl, hE, hB, hz⟩ := hrel
    have hE' := Lib.hid hE
    obtain ⟨k0, k1, k2, k3, k4, k5, k6, k7⟩ := hE
    have hcase : k = 0 ∨ k = 1 ∨ k = 2 := by omega
    rcases hcase with rfl | rfl | rfl
    · clear k6 k7 g0 g1 h0 h1
      obtain ⟨u, eu⟩ : ∃ u : Int, a - 2 * c + e = u := ⟨_, rfl⟩
      obtain ⟨v, ev⟩ : ∃ v : Int, b - 2 * d + f = v := ⟨_, rfl⟩
      have hz1 : w.heap.size < wr.heap.size + 1 := by omega
      have hz2 : w.heap.size < wr.heap.size + 1 + 1 := by omega
      have hz3 : w.heap.size < wr.heap.size + 1 + 1 + 1 := by omega
      obtain ⟨T, hT⟩ : ∃ T : Int, bendTill 0 a b c d e f g h = T := ⟨_, rfl⟩
      go_upto_region 4 with fail
      go_cut [4, 5, 6] (fun s4 s5 s6 wx => ∃ p q r : Nat, s4 = .pointer (some ⟨p, 0, none⟩) ∧ s5 = .pointer (some ⟨q, 0, none⟩) ∧ s6 = .pointer (some ⟨r, 0, none⟩) ∧ wx.cell? ⟨p, 0, none⟩ = some (.int .i64 a) ∧ wx.cell? ⟨p, 1, none⟩ = some (.int .i64 b) ∧
        wx.cell? ⟨q, 0, none⟩ = some (.int .i64 c) ∧ wx.cell? ⟨q, 1, none⟩ = some (.int .i64 d) ∧ wx.cell? ⟨r, 0, none⟩ = some (.int .i64 e) ∧ wx.cell? ⟨r, 1, none⟩ = some (.int .i64 f) ∧ Hid (Below wr.heap.size wr wx))
      case first =>
        go_region
        all_goals
          go_wp2_with fail
          go_meet
          refine ⟨_, _, _, rfl, rfl, rfl, by go_simp, by go_simp, by go_simp, by go_simp, by go_simp, by go_simp, Lib.hid (show Below _ _ _ from ?_)⟩
          ((repeat (first | (with_reducible refine balloc ?_ _) | (with_reducible refine Below.drew ?_) | (with_reducible refine below_drewN ?_ _) | ((with_reducible refine Below.setCell ?_ ?_ _); rotate_left; focus (first | omega | (simp; done) | (simp; omega))))); with_reducible exact Below.refl _ _)
      case rest =>
        obtain ⟨p, q, r, rfl, rfl, rfl, p0, p1, q0, q1, r0, r1, hX⟩ := hcut
        clear hz1 hz2 hz3
        go_wp2
        go_quiet (fail)
        go_wp2
        go_roundw
        case rel => exact ⟨1, by omega, rfl, by rw [← hT, ← eu, ← ev]; rfl, hE'.out.below (below_drewN hX.out _) hz, joinB hB.out (below_drewN hX.out _), Nat.lt_of_lt_of_le hz (below_drewN hX.out 0).size⟩
        case measure => simp [intOf]
    · clear k0 k1 a0 a1 b0 b1
      obtain ⟨u, eu⟩ : ∃ u : Int, c - 2 * e + g = u := ⟨_, rfl⟩
      obtain ⟨v, ev⟩ : ∃ v : Int, d - 2 * f + h = v := ⟨_, rfl⟩
      have hz1 : w.heap.size < wr.heap.size + 1 := by omega
      have hz2 : w.heap.size < wr.heap.size + 1 + 1 := by omega
      have hz3 : w.heap.size < wr.heap.size + 1 + 1 + 1 := by omega
      obtain ⟨T, hT⟩ : ∃ T : Int, bendTill 1 a b c d e f g h = T := ⟨_, rfl⟩
      go_upto_region 4 with fail
      go_cut [4, 5, 6] (fun s4 s5 s6 wx => ∃ p q r : Nat, s4 = .pointer (some ⟨p, 0, none⟩) ∧ s5 = .pointer (some ⟨q, 0, none⟩) ∧ s6 = .pointer (some ⟨r, 0, none⟩) ∧ wx.cell? ⟨p, 0, none⟩ = some (.int .i64 c) ∧ wx.cell? ⟨p, 1, none⟩ = some (.int .i64 d) ∧
        wx.cell? ⟨q, 0, none⟩ = some (.int .i64 e) ∧ wx.cell? ⟨q, 1, none⟩ = some (.int .i64 f) ∧ wx.cell? ⟨r, 0, none⟩ = some (.int .i64 g) ∧ wx.cell? ⟨r, 1, none⟩ = some (.int .i64 h) ∧ Hid (Below wr.heap.size wr wx))
      case first =>
        go_region
        all_goals
          go_wp2_with fail
          go_meet
          refine ⟨_, _, _, rfl, rfl, rfl, by go_simp, by go_simp, by go_simp, by go_simp, by go_simp, by go_simp, Lib.hid (show Below _ _ _ from ?_)⟩
          ((repeat (first | (with_reducible refine balloc ?_ _) | (with_reducible refine Below.drew ?_) | (with_reducible refine below_drewN ?_ _) | ((with_reducible refine Below.setCell ?_ ?_ _); rotate_left; focus (first | omega | (simp; done) | (simp; omega))))); with_reducible exact Below.refl _ _)
      case rest =>
        obtain ⟨p, q, r, rfl, rfl, rfl, p0, p1, q0, q1, r0, r1, hX⟩ := hcut
        clear hz1 hz2 hz3
        go_wp2
        go_quiet (fail)
        go_wp2
        go_roundw
        case rel => exact ⟨2, by omega, rfl, by rw [← hT, ← eu, ← ev]; rfl, hE'.out.below (below_drewN hX.out _) hz, joinB hB.out (below_drewN hX.out _), Nat.lt_of_lt_of_le hz (below_drewN hX.out 0).size⟩
        case measure => simp [intOf]
    · go_wp2
      go_ret
      exact ⟨by rw [← bendTill_two]; rfl, hB.out⟩

end Go.Proofs.Ytbhpfhggcdccjaa
