/- The contract of the helper that makes a segment. -/
import Derived.Test.YtbhpfhggcdccjaaSame
namespace Go.Proofs.Ytbhpfhggcdccjaa
open Go.RowKit Go.Proofs.WPlain

/-- What a number's place holds when so many have been stored. -/
def pv (v : Nat → Int) (k j : Nat) : Int := if j < k then v j * 65536 else 0

set_option maxHeartbeats 4000000 in
theorem seg_any (K : Int) (ad : Option Addr) (n cp : Nat) (v : Nat → Int) (hn : n ≤ 6) (hv : ∀ i, -32768 ≤ v i ∧ v i ≤ 32767) (w : World)
    (hc : ∀ i, i < n → ∃ b, ad = some ⟨b, 0, none⟩ ∧ b < w.heap.size ∧ w.cell? ⟨b, i, none⟩ = some (.int .i64 (v i))) :
    Calls Try.prog 9 #[.int .u8 K, .slice ad n cp] w fun e w' =>
      e = .returned (.agg #[.int .u8 K, .int .i32 (pv v n 0), .int .i32 (pv v n 1), .int .i32 (pv v n 2), .int .i32 (pv v n 3), .int .i32 (pv v n 4), .int .i32 (pv v n 5)]) ∧ Below w.heap.size w w' := by
  go_enter Try.func9, Try.ntmps9
  have HC := Lib.hid hc
  have HV := Lib.hid hv
  clear hc hv
  go_wp2
  go_loopw [6] (fun i wr => ∃ k : Nat, k ≤ n ∧ i = .int .i64 k ∧ wr.cell? ⟨w.heap.size + 1, 0, none⟩ = some (.int .u8 K) ∧ wr.cell? ⟨w.heap.size + 1, 1, none⟩ = some (.int .i32 (pv v k 0)) ∧ wr.cell? ⟨w.heap.size + 1, 2, none⟩ = some (.int .i32 (pv v k 1)) ∧ wr.cell? ⟨w.heap.size + 1, 3, none⟩ = some (.int .i32 (pv v k 2)) ∧ wr.cell? ⟨w.heap.size + 1, 4, none⟩ = some (.int .i32 (pv v k 3)) ∧ wr.cell? ⟨w.heap.size + 1, 5, none⟩ = some (.int .i32 (pv v k 4)) ∧ wr.cell? ⟨w.heap.size + 1, 6, none⟩ = some (.int .i32 (pv v k 5)) ∧ (∀ o, wr.frozen? ⟨w.heap.size + 1, o, none⟩ = false) ∧ (∀ j, j < 7 → ∃ u, wr.cell? ⟨w.heap.size, j, none⟩ = some u) ∧ (∀ o, wr.frozen? ⟨w.heap.size, o, none⟩ = false) ∧ Hid (Below w.heap.size w wr) ∧ w.heap.size + 1 < wr.heap.size)
    (fun i _ => n - (intOf i).toNat)
  case atStart =>
    refine ⟨0, by omega, rfl, by go_simp, by go_simp; rfl, by go_simp; rfl, by go_simp; rfl, by go_simp; rfl, by go_simp; rfl, by go_simp; rfl, fun o => by go_simp, fun j hj => ?_, fun o => by go_simp, Lib.hid (show Below _ _ _ from ?_), by simp⟩
    · have : j = 0 ∨ j = 1 ∨ j = 2 ∨ j = 3 ∨ j = 4 ∨ j = 5 ∨ j = 6 := by omega
      rcases this with rfl | rfl | rfl | rfl | rfl | rfl | rfl <;> exact ⟨_, by go_simp; rfl⟩
    · ((repeat (first | (with_reducible refine balloc ?_ _) | (with_reducible refine Below.drew ?_) | (with_reducible refine below_drewN ?_ _) | ((with_reducible refine Below.setCell ?_ ?_ _); rotate_left; focus (first | omega | (simp; done) | (simp; omega))))); with_reducible exact Below.refl _ _)
  case round =>
    obtain ⟨k, hk, rfl, c0, c1, c2, c3, c4, c5, c6, hf, hr, hfr, hB, hz⟩ := hrel
    by_cases hlt : k < n
    · obtain ⟨b, rfl, hbl, hcb⟩ := HC.out k hlt
      have hcb' : wr.cell? ⟨b, k, none⟩ = some (.int .i64 (v k)) := (hB.out.cell (p := ⟨b, k, none⟩) hbl).trans hcb
      obtain ⟨v0, v1⟩ := HV.out k
      have hcase : k = 0 ∨ k = 1 ∨ k = 2 ∨ k = 3 ∨ k = 4 ∨ k = 5 := by omega
      clear hcb
      rcases hcase with rfl | rfl | rfl | rfl | rfl | rfl
      all_goals
        simp only [pv] at c1 c2 c3 c4 c5 c6
        go_wp2
        go_roundw
        case rel =>
          refine ⟨_, hlt, by go_num, by go_simp, by go_simp; rfl, by go_simp; rfl, by go_simp; rfl, by go_simp; rfl, by go_simp; rfl, by go_simp; rfl, fun o => by go_simp, fun j hj => ?_, fun o => by go_simp, Lib.hid (show Below w.heap.size w _ by ((repeat (first | (with_reducible refine balloc ?_ _) | (with_reducible refine Below.drew ?_) | (with_reducible refine below_drewN ?_ _) | ((with_reducible refine Below.setCell ?_ ?_ _); rotate_left; focus (first | omega | (simp; done) | (simp; omega))))); with_reducible exact hB.out)), by simpa using hz⟩
          obtain ⟨u, hu⟩ := hr j hj
          exact ⟨u, by go_simp⟩
        case measure => simp [intOf]; omega
    · have hkn : k = n := by omega
      subst hkn
      obtain ⟨u0, r0⟩ := hr 0 (by omega)
      obtain ⟨u1, r1⟩ := hr 1 (by omega)
      obtain ⟨u2, r2⟩ := hr 2 (by omega)
      obtain ⟨u3, r3⟩ := hr 3 (by omega)
      obtain ⟨u4, r4⟩ := hr 4 (by omega)
      obtain ⟨u5, r5⟩ := hr 5 (by omega)
      obtain ⟨u6, r6⟩ := hr 6 (by omega)
      have hz0 : w.heap.size < wr.heap.size := by omega
      clear hr
      go_wp2
      refine bodyPost_ret (v := .agg #[.int .u8 K, .int .i32 (pv v k 0), .int .i32 (pv v k 1), .int .i32 (pv v k 2), .int .i32 (pv v k 3), .int .i32 (pv v k 4), .int .i32 (pv v k 5)]) (by simp [results, Try.results9, go_sem, r0, r1, r2, r3, r4, r5, r6]) rfl ⟨rfl, ?_⟩
      ((repeat (first | (with_reducible refine balloc ?_ _) | (with_reducible refine Below.drew ?_) | (with_reducible refine below_drewN ?_ _) | ((with_reducible refine Below.setCell ?_ ?_ _); rotate_left; focus (first | omega | (simp; done) | (simp; omega))))); with_reducible exact hB.out)

end Go.Proofs.Ytbhpfhggcdccjaa
