/- The contracts of the small functions of the package paths of the program: a dot of a curve. -/
import Derived.Test.YtbhpfhggcdccjaaPathB
namespace Go.Proofs.Ytbhpfhggcdccjaa
open Go.RowKit Go.Proofs.WPlain

theorem mul_b {a b m n : Int} (a0 : 0 ≤ a) (a1 : a ≤ m) (b0 : 0 ≤ b) (b1 : b ≤ n) : 0 ≤ a * b ∧ a * b ≤ m * n :=
  ⟨Int.mul_nonneg a0 b0, Int.mul_le_mul a1 b1 b0 (by omega)⟩

theorem mul_s {a b m n : Int} (a0 : 0 ≤ a) (a1 : a ≤ m) (n0 : 0 ≤ n) (b0 : -n ≤ b) (b1 : b ≤ n) : -(m * n) ≤ a * b ∧ a * b ≤ m * n := by
  have h1 : a * b ≤ a * n := Int.mul_le_mul_of_nonneg_left b1 a0
  have h2 : a * -n ≤ a * b := Int.mul_le_mul_of_nonneg_left b0 a0
  have h3 : a * n ≤ m * n := Int.mul_le_mul_of_nonneg_right a1 n0
  rw [Int.mul_neg] at h2
  omega

/-- A cubic of four numbers, so many of so many pieces on. -/
def cubicZ (x0 x1 x2 x3 i n : Int) : Int :=
  nearZ ((n - i) * (n - i) * (n - i) * x0 + 3 * (n - i) * (n - i) * i * x1 + 3 * (n - i) * i * i * x2 + i * i * i * x3) (n * (n * n) * 256)

/-- What has been summed up behind so many rounds. -/
def sumTill (k : Nat) (a b c d : Int) : Int :=
  match k with
  | 0 => 0
  | 1 => a
  | 2 => a + b
  | 3 => a + b + c
  | _ => a + b + c + d

set_option maxHeartbeats 2000000 in
theorem curveDot_any (a b c d e f g h i n : Int) (w : World) (a0 : -2147483648 ≤ a) (a1 : a ≤ 2147483647) (b0 : -2147483648 ≤ b) (b1 : b ≤ 2147483647) (c0 : -2147483648 ≤ c) (c1 : c ≤ 2147483647) (d0 : -2147483648 ≤ d) (d1 : d ≤ 2147483647)
    (e0 : -2147483648 ≤ e) (e1 : e ≤ 2147483647) (f0 : -2147483648 ≤ f) (f1 : f ≤ 2147483647) (g0 : -2147483648 ≤ g) (g1 : g ≤ 2147483647) (h0 : -2147483648 ≤ h) (h1 : h ≤ 2147483647) (i0 : 1 ≤ i) (i1 : i ≤ n) (n1 : n ≤ 64) :
    Calls Try.prog 21 #[.agg #[.int .i64 a, .int .i64 b, .int .i64 c, .int .i64 d, .int .i64 e, .int .i64 f, .int .i64 g, .int .i64 h], .int .i64 i, .int .i64 n] w fun e' w' =>
      e' = .returned (.agg #[.int .i64 (cubicZ a c e g i n), .int .i64 (cubicZ b d f h i n)]) ∧ Below w.heap.size w w' := by
  unfold cubicZ
  obtain ⟨j, hj⟩ : ∃ j : Int, n - i = j := ⟨_, rfl⟩
  rw [hj]
  have j0 : 0 ≤ j := by omega
  have j1 : j ≤ 64 := by omega
  have p1 := mul_b j0 j1 j0 j1
  have p2 := mul_b p1.1 p1.2 j0 j1
  have p3 := mul_b (a := 3 * j) (m := 192) (by omega) (by omega) j0 j1
  have p4 := mul_b p3.1 p3.2 (show 0 ≤ i by omega) (show i ≤ 64 by omega)
  have p5 := mul_b (a := 3 * j) (m := 192) (by omega) (by omega) (show 0 ≤ i by omega) (show i ≤ 64 by omega)
  have p6 := mul_b p5.1 p5.2 (show 0 ≤ i by omega) (show i ≤ 64 by omega)
  have p7 := mul_b (show 0 ≤ i by omega) (show i ≤ 64 by omega) (show 0 ≤ i by omega) (show i ≤ 64 by omega)
  have p8 := mul_b p7.1 p7.2 (show 0 ≤ i by omega) (show i ≤ 64 by omega)
  have p9 := mul_b (show 0 ≤ n by omega) n1 (show 0 ≤ n by omega) n1
  have p10 := mul_b (show 0 ≤ n by omega) n1 p9.1 p9.2
  have hA : 1 ≤ n * (n * n) := by
    have h1 : 1 * 1 ≤ n * n := Int.mul_le_mul (by omega) (by omega) (by omega) (by omega)
    have h2 : 1 * 1 ≤ n * (n * n) := Int.mul_le_mul (by omega) (by omega) (by omega) (by omega)
    omega
  obtain ⟨j2, ej2⟩ : ∃ x : Int, j * j = x := ⟨_, rfl⟩
  rw [ej2] at p1 p2
  obtain ⟨w0, ew0⟩ : ∃ x : Int, j2 * j = x := ⟨_, rfl⟩
  rw [ew0] at p2
  obtain ⟨t1, et1⟩ : ∃ x : Int, 3 * j * j = x := ⟨_, rfl⟩
  rw [et1] at p3 p4
  obtain ⟨w1, ew1⟩ : ∃ x : Int, t1 * i = x := ⟨_, rfl⟩
  rw [ew1] at p4
  obtain ⟨t2, et2⟩ : ∃ x : Int, 3 * j * i = x := ⟨_, rfl⟩
  rw [et2] at p5 p6
  obtain ⟨w2, ew2⟩ : ∃ x : Int, t2 * i = x := ⟨_, rfl⟩
  rw [ew2] at p6
  obtain ⟨i2, ei2⟩ : ∃ x : Int, i * i = x := ⟨_, rfl⟩
  rw [ei2] at p7 p8
  obtain ⟨w3, ew3⟩ : ∃ x : Int, i2 * i = x := ⟨_, rfl⟩
  rw [ew3] at p8
  obtain ⟨n2, en2⟩ : ∃ x : Int, n * n = x := ⟨_, rfl⟩
  rw [en2] at p9 p10 hA
  obtain ⟨A, eA⟩ : ∃ x : Int, n * n2 = x := ⟨_, rfl⟩
  rw [eA] at p10 hA
  rw [ej2, ew0, et1, ew1, et2, ew2, ei2, ew3, en2, eA]
  obtain ⟨A0, A1⟩ := p10
  obtain ⟨p10, p11⟩ := p1
  obtain ⟨p20, p21⟩ := p2
  obtain ⟨p30, p31⟩ := p3
  obtain ⟨p40, p41⟩ := p4
  obtain ⟨p50, p51⟩ := p5
  obtain ⟨p60, p61⟩ := p6
  obtain ⟨p70, p71⟩ := p7
  obtain ⟨p80, p81⟩ := p8
  obtain ⟨p90, p91⟩ := p9
  have q (v x : Int) (v0 : 0 ≤ v) (v1 : v ≤ 786432) (x0 : -2147483648 ≤ x) (x1 : x ≤ 2147483647) : -1688849860263936 ≤ v * x ∧ v * x ≤ 1688849860263936 := by
    have := mul_s (n := 2147483648) v0 v1 (by omega) (by omega) (by omega : x ≤ 2147483648)
    omega
  obtain ⟨u0, u0'⟩ := q w0 a p20 (by omega) a0 a1
  obtain ⟨u1, u1'⟩ := q w1 c p40 (by omega) c0 c1
  obtain ⟨u2, u2'⟩ := q w2 e p60 (by omega) e0 e1
  obtain ⟨u3, u3'⟩ := q w3 g p80 (by omega) g0 g1
  obtain ⟨v0, v0'⟩ := q w0 b p20 (by omega) b0 b1
  obtain ⟨v1, v1'⟩ := q w1 d p40 (by omega) d0 d1
  obtain ⟨v2, v2'⟩ := q w2 f p60 (by omega) f0 f1
  obtain ⟨v3, v3'⟩ := q w3 h p80 (by omega) h0 h1
  obtain ⟨ua, eua⟩ : ∃ x : Int, w0 * a = x := ⟨_, rfl⟩
  obtain ⟨uc, euc⟩ : ∃ x : Int, w1 * c = x := ⟨_, rfl⟩
  obtain ⟨ue, eue⟩ : ∃ x : Int, w2 * e = x := ⟨_, rfl⟩
  obtain ⟨ug, eug⟩ : ∃ x : Int, w3 * g = x := ⟨_, rfl⟩
  obtain ⟨ub, eub⟩ : ∃ x : Int, w0 * b = x := ⟨_, rfl⟩
  obtain ⟨ud, eud⟩ : ∃ x : Int, w1 * d = x := ⟨_, rfl⟩
  obtain ⟨uf, euf⟩ : ∃ x : Int, w2 * f = x := ⟨_, rfl⟩
  obtain ⟨uh, euh⟩ : ∃ x : Int, w3 * h = x := ⟨_, rfl⟩
  rw [eua, euc, eue, eug, eub, eud, euf, euh]
  rw [eua] at u0 u0'; rw [euc] at u1 u1'; rw [eue] at u2 u2'; rw [eug] at u3 u3'
  rw [eub] at v0 v0'; rw [eud] at v1 v1'; rw [euf] at v2 v2'; rw [euh] at v3 v3'
  have X := near256_any (ua + uc + ue + ug) A
  have Y := near256_any (ub + ud + uf + uh) A
  generalize nearZ (ua + uc + ue + ug) (A * 256) = rx at *
  generalize nearZ (ub + ud + uf + uh) (A * 256) = ry at *
  have ix0 : ∀ w, (Instr.index 62 (.agg #[.int .i64 w0, .int .i64 w1, .int .i64 w2, .int .i64 w3]) (.int .i64 0)).run Try.prog w = .ok (.int .i64 w0) w := fun _ => by kernel_rfl
  have ix1 : ∀ w, (Instr.index 62 (.agg #[.int .i64 w0, .int .i64 w1, .int .i64 w2, .int .i64 w3]) (.int .i64 1)).run Try.prog w = .ok (.int .i64 w1) w := fun _ => by kernel_rfl
  have ix2 : ∀ w, (Instr.index 62 (.agg #[.int .i64 w0, .int .i64 w1, .int .i64 w2, .int .i64 w3]) (.int .i64 2)).run Try.prog w = .ok (.int .i64 w2) w := fun _ => by kernel_rfl
  have ix3 : ∀ w, (Instr.index 62 (.agg #[.int .i64 w0, .int .i64 w1, .int .i64 w2, .int .i64 w3]) (.int .i64 3)).run Try.prog w = .ok (.int .i64 w3) w := fun _ => by kernel_rfl
  clear q i1 a0 a1 b0 b1 c0 c1 d0 d1 e0 e1 f0 f1 g0 g1 h0 h1
  go_enter Try.func21, Try.ntmps21
  go_wp2
  clear hj j0 j1 i0 n1 ej2 ew0 et1 ew1 et2 ew2 ei2 ew3 p10 p11 p20 p21 p30 p31 p40 p41 p50 p51 p60 p61 p70 p71 p80 p81
  go_loopw [39] (fun i wr => ∃ k : Nat, k ≤ 4 ∧ i = .int .i64 k ∧ wr.cell? ⟨w.heap.size + 1 + 1 + 1, 0, none⟩ = some (.int .i64 (sumTill k ua uc ue ug)) ∧ wr.cell? ⟨w.heap.size + 1 + 1 + 1, 1, none⟩ = some (.int .i64 (sumTill k ub ud uf uh)) ∧
    (∀ o, wr.frozen? ⟨w.heap.size + 1 + 1 + 1, o, none⟩ = false) ∧ (wr.cell? ⟨w.heap.size + 1, 0, none⟩ = some (.int .i64 0) ∧ wr.cell? ⟨w.heap.size + 1, 1, none⟩ = some (.int .i64 0) ∧ ∀ o, wr.frozen? ⟨w.heap.size + 1, o, none⟩ = false) ∧ Eight wr w.heap.size a b c d e f g h ∧ Hid (Below w.heap.size w wr) ∧ w.heap.size + 1 + 1 + 1 < wr.heap.size) (fun i _ => 4 - (intOf i).toNat)
  case atStart =>
    refine ⟨0, by omega, rfl, by go_simp; rfl, by go_simp; rfl, fun o => by go_simp, ⟨by go_simp, by go_simp, fun o => by go_simp⟩, ⟨by go_simp, by go_simp, by go_simp, by go_simp, by go_simp, by go_simp, by go_simp, by go_simp⟩, Lib.hid (show Below _ _ _ from ?_), by simp⟩
    ((repeat (first | (with_reducible refine balloc ?_ _) | (with_reducible refine Below.drew ?_) | (with_reducible refine below_drewN ?_ _) | ((with_reducible refine Below.setCell ?_ ?_ _); rotate_left; focus (first | omega | (simp; done) | (simp; omega))))); with_reducible exact Below.refl _ _)
  case round =>
    obtain ⟨k, hk, rfl, s0, s1, hfr, ⟨t0, t1, hfq⟩, hE, hB, hz⟩ := hrel
    have hE' := Lib.hid hE
    obtain ⟨m0, m1, m2, m3, m4, m5, m6, m7⟩ := hE
    have hz0 : w.heap.size < wr.heap.size := by omega
    have hcase : k = 0 ∨ k = 1 ∨ k = 2 ∨ k = 3 ∨ k = 4 := by omega
    rcases hcase with rfl | rfl | rfl | rfl | rfl
    all_goals dsimp only [sumTill] at s0 s1
    · clear m2 m3 m4 m5 m6 m7
      go_wp2
      go_region
      all_goals
        go_wp2
        go_roundw
        case rel =>
          have hS : Below w.heap.size w ((wr.setCell ⟨w.heap.size + 1 + 1 + 1, 0, none⟩ (.int .i64 (sumTill 1 ua uc ue ug))).setCell ⟨w.heap.size + 1 + 1 + 1, 1, none⟩ (.int .i64 (sumTill 1 ub ud uf uh))) := by ((repeat (first | (with_reducible refine balloc ?_ _) | (with_reducible refine Below.drew ?_) | (with_reducible refine below_drewN ?_ _) | ((with_reducible refine Below.setCell ?_ ?_ _); rotate_left; focus (first | omega | (simp; done) | (simp; omega))))); with_reducible exact hB.out)
          have hT : Below (w.heap.size + 1) wr ((wr.setCell ⟨w.heap.size + 1 + 1 + 1, 0, none⟩ (.int .i64 (sumTill 1 ua uc ue ug))).setCell ⟨w.heap.size + 1 + 1 + 1, 1, none⟩ (.int .i64 (sumTill 1 ub ud uf uh))) :=
            ((Below.refl _ _).setCell (by show _ ≤ w.heap.size + 1 + 1 + 1; omega) _).setCell (by show _ ≤ w.heap.size + 1 + 1 + 1; omega) _
          exact ⟨1, by omega, rfl, by go_simp; rfl, by go_simp; rfl, fun o => by go_simp, ⟨by go_simp, by go_simp, fun o => by go_simp⟩, hE'.out.below hT.drew (by omega), hS.drew, by simp; omega⟩
        case measure => simp [intOf]
    · clear m0 m1 m4 m5 m6 m7
      go_wp2
      go_region
      all_goals
        go_wp2
        go_roundw
        case rel =>
          have hS : Below w.heap.size w ((wr.setCell ⟨w.heap.size + 1 + 1 + 1, 0, none⟩ (.int .i64 (sumTill 2 ua uc ue ug))).setCell ⟨w.heap.size + 1 + 1 + 1, 1, none⟩ (.int .i64 (sumTill 2 ub ud uf uh))) := by ((repeat (first | (with_reducible refine balloc ?_ _) | (with_reducible refine Below.drew ?_) | (with_reducible refine below_drewN ?_ _) | ((with_reducible refine Below.setCell ?_ ?_ _); rotate_left; focus (first | omega | (simp; done) | (simp; omega))))); with_reducible exact hB.out)
          have hT : Below (w.heap.size + 1) wr ((wr.setCell ⟨w.heap.size + 1 + 1 + 1, 0, none⟩ (.int .i64 (sumTill 2 ua uc ue ug))).setCell ⟨w.heap.size + 1 + 1 + 1, 1, none⟩ (.int .i64 (sumTill 2 ub ud uf uh))) :=
            ((Below.refl _ _).setCell (by show _ ≤ w.heap.size + 1 + 1 + 1; omega) _).setCell (by show _ ≤ w.heap.size + 1 + 1 + 1; omega) _
          exact ⟨2, by omega, rfl, by go_simp; rfl, by go_simp; rfl, fun o => by go_simp, ⟨by go_simp, by go_simp, fun o => by go_simp⟩, hE'.out.below hT.drew (by omega), hS.drew, by simp; omega⟩
        case measure => simp [intOf]
    · clear m0 m1 m2 m3 m6 m7
      go_wp2
      go_region
      all_goals
        go_wp2
        go_roundw
        case rel =>
          have hS : Below w.heap.size w ((wr.setCell ⟨w.heap.size + 1 + 1 + 1, 0, none⟩ (.int .i64 (sumTill 3 ua uc ue ug))).setCell ⟨w.heap.size + 1 + 1 + 1, 1, none⟩ (.int .i64 (sumTill 3 ub ud uf uh))) := by ((repeat (first | (with_reducible refine balloc ?_ _) | (with_reducible refine Below.drew ?_) | (with_reducible refine below_drewN ?_ _) | ((with_reducible refine Below.setCell ?_ ?_ _); rotate_left; focus (first | omega | (simp; done) | (simp; omega))))); with_reducible exact hB.out)
          have hT : Below (w.heap.size + 1) wr ((wr.setCell ⟨w.heap.size + 1 + 1 + 1, 0, none⟩ (.int .i64 (sumTill 3 ua uc ue ug))).setCell ⟨w.heap.size + 1 + 1 + 1, 1, none⟩ (.int .i64 (sumTill 3 ub ud uf uh))) :=
            ((Below.refl _ _).setCell (by show _ ≤ w.heap.size + 1 + 1 + 1; omega) _).setCell (by show _ ≤ w.heap.size + 1 + 1 + 1; omega) _
          exact ⟨3, by omega, rfl, by go_simp; rfl, by go_simp; rfl, fun o => by go_simp, ⟨by go_simp, by go_simp, fun o => by go_simp⟩, hE'.out.below hT.drew (by omega), hS.drew, by simp; omega⟩
        case measure => simp [intOf]
    · clear m0 m1 m2 m3 m4 m5
      go_wp2
      go_region
      all_goals
        go_wp2
        go_roundw
        case rel =>
          have hS : Below w.heap.size w ((wr.setCell ⟨w.heap.size + 1 + 1 + 1, 0, none⟩ (.int .i64 (sumTill 4 ua uc ue ug))).setCell ⟨w.heap.size + 1 + 1 + 1, 1, none⟩ (.int .i64 (sumTill 4 ub ud uf uh))) := by ((repeat (first | (with_reducible refine balloc ?_ _) | (with_reducible refine Below.drew ?_) | (with_reducible refine below_drewN ?_ _) | ((with_reducible refine Below.setCell ?_ ?_ _); rotate_left; focus (first | omega | (simp; done) | (simp; omega))))); with_reducible exact hB.out)
          have hT : Below (w.heap.size + 1) wr ((wr.setCell ⟨w.heap.size + 1 + 1 + 1, 0, none⟩ (.int .i64 (sumTill 4 ua uc ue ug))).setCell ⟨w.heap.size + 1 + 1 + 1, 1, none⟩ (.int .i64 (sumTill 4 ub ud uf uh))) :=
            ((Below.refl _ _).setCell (by show _ ≤ w.heap.size + 1 + 1 + 1; omega) _).setCell (by show _ ≤ w.heap.size + 1 + 1 + 1; omega) _
          exact ⟨4, by omega, rfl, by go_simp; rfl, by go_simp; rfl, fun o => by go_simp, ⟨by go_simp, by go_simp, fun o => by go_simp⟩, hE'.out.below hT.drew (by omega), hS.drew, by simp; omega⟩
        case measure => simp [intOf]
    · clear m0 m1 m2 m3 m4 m5 m6 m7 hE' eua eub euc eud eue euf eug euh
      obtain ⟨sx, esx⟩ : ∃ x : Int, ua + uc + ue + ug = x := ⟨_, rfl⟩
      obtain ⟨sy, esy⟩ : ∃ x : Int, ub + ud + uf + uh = x := ⟨_, rfl⟩
      rw [esx] at X s0
      rw [esy] at Y s1
      have xb0 : -6755399441055744 ≤ sx := by omega
      have xb1 : sx ≤ 6755399441055744 := by omega
      have yb0 : -6755399441055744 ≤ sy := by omega
      have yb1 : sy ≤ 6755399441055744 := by omega
      clear u0 u0' u1 u1' u2 u2' u3 u3' v0 v0' v1 v1' v2 v2' v3 v3' esx esy
      go_wp2
      go_region_with (first
        | (go_at_call 25; (with_reducible refine (X _ (by omega) (by omega) hA (by omega)).mono ?_); rintro e w1 ⟨rfl, hb⟩; obtain ⟨hc, hf⟩ := bcell hb; have k0 : w1.cell? ⟨w.heap.size + 1 + 1 + 1, 0, none⟩ = some (.int .i64 sx) := (hc _ _ (by first | omega | (simp; done) | (simp; omega))).trans (by go_simp); have k1 : w1.cell? ⟨w.heap.size + 1 + 1 + 1, 1, none⟩ = some (.int .i64 sy) := (hc _ _ (by first | omega | (simp; done) | (simp; omega))).trans (by go_simp); have k2 : w1.cell? ⟨w.heap.size + 1, 0, none⟩ = some (.int .i64 0) := (hc _ _ (by first | omega | (simp; done) | (simp; omega))).trans (by go_simp); have k3 : w1.cell? ⟨w.heap.size + 1, 1, none⟩ = some (.int .i64 0) := (hc _ _ (by first | omega | (simp; done) | (simp; omega))).trans (by go_simp); have g0 : ∀ o, w1.frozen? ⟨w.heap.size + 1, o, none⟩ = false := fun o => (hf _ o (by first | omega | (simp; done) | (simp; omega))).trans (by go_simp); have hz : w.heap.size + 1 + 1 + 1 < w1.heap.size := (by have := hb.size; (first | omega | (simp at this; omega))); have hz0 : w.heap.size < w1.heap.size := (by omega); have hz1 : w.heap.size + 1 < w1.heap.size := (by omega); have hz2 : w.heap.size + 1 + 1 < w1.heap.size := (by omega); have B1 := Lib.hid (joinB (show Below w.heap.size w _ by (repeat (first | (with_reducible refine balloc ?_ _) | (with_reducible refine Below.drew ?_) | (with_reducible refine below_drewN ?_ _) | ((with_reducible refine Below.setCell ?_ ?_ _); rotate_left; focus (first | omega | (simp; done) | (simp; omega))))); first | with_reducible exact B1.out | with_reducible exact hB.out | with_reducible exact Below.refl _ _) hb); clear hb hc hf)
        | (go_at_call 25; (with_reducible refine (Y _ (by omega) (by omega) hA (by omega)).mono ?_); rintro e w1 ⟨rfl, hb⟩; obtain ⟨hc, hf⟩ := bcell hb; have k0 : w1.cell? ⟨w.heap.size + 1 + 1 + 1, 0, none⟩ = some (.int .i64 sx) := (hc _ _ (by first | omega | (simp; done) | (simp; omega))).trans (by go_simp); have k1 : w1.cell? ⟨w.heap.size + 1 + 1 + 1, 1, none⟩ = some (.int .i64 sy) := (hc _ _ (by first | omega | (simp; done) | (simp; omega))).trans (by go_simp); have k2 : w1.cell? ⟨w.heap.size + 1, 0, none⟩ = some (.int .i64 0) := (hc _ _ (by first | omega | (simp; done) | (simp; omega))).trans (by go_simp); have k3 : w1.cell? ⟨w.heap.size + 1, 1, none⟩ = some (.int .i64 0) := (hc _ _ (by first | omega | (simp; done) | (simp; omega))).trans (by go_simp); have g0 : ∀ o, w1.frozen? ⟨w.heap.size + 1, o, none⟩ = false := fun o => (hf _ o (by first | omega | (simp; done) | (simp; omega))).trans (by go_simp); have hz : w.heap.size + 1 + 1 + 1 < w1.heap.size := (by have := hb.size; (first | omega | (simp at this; omega))); have hz0 : w.heap.size < w1.heap.size := (by omega); have hz1 : w.heap.size + 1 < w1.heap.size := (by omega); have hz2 : w.heap.size + 1 + 1 < w1.heap.size := (by omega); have B1 := Lib.hid (joinB (show Below w.heap.size w _ by (repeat (first | (with_reducible refine balloc ?_ _) | (with_reducible refine Below.drew ?_) | (with_reducible refine below_drewN ?_ _) | ((with_reducible refine Below.setCell ?_ ?_ _); rotate_left; focus (first | omega | (simp; done) | (simp; omega))))); first | with_reducible exact B1.out | with_reducible exact hB.out | with_reducible exact Below.refl _ _) hb); clear hb hc hf))
      all_goals
        go_wp2
        (refine bodyPost_ret (v := .agg #[.int .i64 rx, .int .i64 ry]) (by simp [results, Try.results21, go_sem, *]) rfl ⟨rfl, ?_⟩; (repeat (first | (with_reducible refine balloc ?_ _) | (with_reducible refine Below.drew ?_) | (with_reducible refine below_drewN ?_ _) | ((with_reducible refine Below.setCell ?_ ?_ _); rotate_left; focus (first | omega | (simp; done) | (simp; omega))))); with_reducible exact B1.out)

end Go.Proofs.Ytbhpfhggcdccjaa
