/- The walk of the statement PathsMoved. -/
import Derived.Test.YtbhpfhggcdccjaaJoin
import Derived.Test.YtbhpfhggcdccjaaMovedPlain
namespace Go.Proofs.Ytbhpfhggcdccjaa
open Go.RowKit Go.Proofs.WPlain

/-- A number of a segment, behind so many rounds. -/
def qv (a u : Int) (k j : Nat) : Int := if j < k then a + u else a

theorem mv_take (x y : Int) (l : List Sg) (k : Nat) (s : Sg) (h : l[k]? = some s) : (l.take (k + 1)).map (mvS x y) = (l.take k).map (mvS x y) ++ [mvS x y s] := by
  rw [List.take_add_one, h]; simp
theorem flat_snoc (l : List Sg) (s : Sg) : (l ++ [s]).flatMap Sg.vals = l.flatMap Sg.vals ++ s.vals := by simp

set_option maxRecDepth 100000 in
set_option maxHeartbeats 8000000 in
theorem moved_walk (a : Option Addr) (cap : Nat) (l : List Sg) (x y : Int) (w : World) (hca : l.length ≤ cap) (hcm : cap ≤ 9223372036854775807) (hok : ∀ s ∈ l, s.ok) (hs : SegsAt w w.heap.size a l)
    (x0 : -32768 ≤ x) (x1 : x ≤ 32767) (y0 : -32768 ≤ y) (y1 : y ≤ 32767) :
    Calls Try.prog 3 #[.slice a l.length cap, .int .i16 x, .int .i16 y] w fun e w' => e = .returned (.bool true) ∧ Below w.heap.size w w' := by
  by_cases h40 : 40 < l.length
  · have e1 : ((l.length : Int) > 40) = True := by simp; omega
    go_enter Try.func3, Try.ntmps3
    go_wp2_with (go_at_call 6; (with_reducible refine (lives_any _).mono ?_); rintro e w1 ⟨rfl, hb⟩; have B1 := Lib.hid hb; clear hb)
    go_ret
    exact ⟨rfl, B1.out⟩
  have e1 : ((l.length : Int) > 40) = False := by simp; omega
  obtain ⟨LA, EA, hA⟩ : ∃ L E, pathsOf l = (L, E) := ⟨_, _, rfl⟩
  have HOA := Lib.hid (of_rd l l.length rfl (by omega) hok LA EA hA a cap hca hcm)
  have HA := Lib.hid hA
  have HOK := Lib.hid hok
  have HS := Lib.hid hs
  have hl40 : l.length ≤ 40 := by omega
  clear hA hok hs h40
  obtain ⟨i0, hi0, hz0, hz1, hz2⟩ := info_parts Try.info29
  go_enter Try.func3, Try.ntmps3
  go_wp2_with fail
  go_loopw [7, 8] (fun v i wr => ∃ k : Nat, k ≤ l.length ∧ i = .int .i64 k ∧ Hid (wr.ownsRow w.heap.size 29 7 v k (((l.take k).map (mvS x y)).flatMap Sg.vals)) ∧ Hid (∀ s ∈ (l.take k).map (mvS x y), s.ok) ∧ Hid (Below w.heap.size w wr)) (fun _ i _ => l.length - (intOf i).toNat)
  case atStart => exact ⟨0, by omega, rfl, Lib.hid (own_nil _ _ _ _), Lib.hid (by simp), Lib.hid (Below.refl _ _)⟩
  case round =>
    obtain ⟨k, hk, rfl, hR, hMok, hB⟩ := hrel
    by_cases hlt : k < l.length
    · obtain ⟨⟨K, A, B, C, D, E, F⟩, hsk⟩ : ∃ d, l[k]? = some d := ⟨_, List.getElem?_eq_getElem hlt⟩
      obtain ⟨⟨sk0, sk1⟩, ⟨sa0, sa1⟩, ⟨sb0, sb1⟩, ⟨sc0, sc1⟩, ⟨sd0, sd1⟩, ⟨se0, se1⟩, ⟨sf0, sf1⟩⟩ := HOK.out _ (List.mem_of_getElem? hsk)
      dsimp only at sk0 sk1 sa0 sa1 sb0 sb1 sc0 sc1 sd0 sd1 se0 se1 sf0 sf1
      obtain ⟨b, off, rfl, hb, hc⟩ : ∃ b off : Nat, a = some ⟨b, off, none⟩ ∧ b < w.heap.size ∧ ∀ (j : Nat) (u : Value), (Sg.vals ⟨K, A, B, C, D, E, F⟩)[j]? = some u → w.cell? ⟨b, off + k * 7 + j, none⟩ = some u := by
        rcases HS.out with rfl | ⟨b, off, ha, hb, hc⟩
        · simp at hsk
        · exact ⟨b, off, ha, hb, fun j u hu => hc k _ hsk j u hu⟩
      have rd : ∀ (j : Nat) (u : Value), (Sg.vals ⟨K, A, B, C, D, E, F⟩)[j]? = some u → wr.cell? ⟨b, off + k * 7 + j, none⟩ = some u := fun j u hu => (hB.out.cell (p := ⟨b, off + k * 7 + j, none⟩) hb).trans (hc j u hu)
      have c0 := rd 0 _ rfl
      have c1 := rd 1 _ rfl
      have c2 := rd 2 _ rfl
      have c3 := rd 3 _ rfl
      have c4 := rd 4 _ rfl
      have c5 := rd 5 _ rfl
      have c6 := rd 6 _ rfl
      simp only [Nat.add_zero] at c0
      have HMT := Lib.hid (mv_take x y l k _ hsk)
      clear rd hc hsk
      obtain ⟨wo, rfl⟩ : ∃ wo : World, wo = wr := ⟨_, rfl⟩
      have hz := hB.out.size
      go_wp2_with fail
      go_loopw [10] (fun i wi => ∃ j : Nat, j ≤ 6 ∧ i = .int .i64 j ∧ wi.cell? ⟨wo.heap.size, 0, none⟩ = some (.int .u8 K) ∧ wi.cell? ⟨wo.heap.size, 1, none⟩ = some (.int .i32 (qv A (256 * x) j 0)) ∧ wi.cell? ⟨wo.heap.size, 2, none⟩ = some (.int .i32 (qv B (256 * y) j 1)) ∧
          wi.cell? ⟨wo.heap.size, 3, none⟩ = some (.int .i32 (qv C (256 * x) j 2)) ∧ wi.cell? ⟨wo.heap.size, 4, none⟩ = some (.int .i32 (qv D (256 * y) j 3)) ∧ wi.cell? ⟨wo.heap.size, 5, none⟩ = some (.int .i32 (qv E (256 * x) j 4)) ∧ wi.cell? ⟨wo.heap.size, 6, none⟩ = some (.int .i32 (qv F (256 * y) j 5)) ∧
          (∀ o, wi.frozen? ⟨wo.heap.size, o, none⟩ = false) ∧ Hid (Below wo.heap.size wo wi) ∧ wo.heap.size < wi.heap.size ∧
          Hid ((∀ t, t < j → t = 0 → -2147483648 ≤ A + 256 * x ∧ A + 256 * x ≤ 2147483647) ∧ (∀ t, t < j → t = 1 → -2147483648 ≤ B + 256 * y ∧ B + 256 * y ≤ 2147483647) ∧ (∀ t, t < j → t = 2 → -2147483648 ≤ C + 256 * x ∧ C + 256 * x ≤ 2147483647) ∧
            (∀ t, t < j → t = 3 → -2147483648 ≤ D + 256 * y ∧ D + 256 * y ≤ 2147483647) ∧ (∀ t, t < j → t = 4 → -2147483648 ≤ E + 256 * x ∧ E + 256 * x ≤ 2147483647) ∧ (∀ t, t < j → t = 5 → -2147483648 ≤ F + 256 * y ∧ F + 256 * y ≤ 2147483647)))
        (fun i _ => 6 - (intOf i).toNat)
      case atStart =>
        refine ⟨0, by omega, rfl, by go_simp, by go_simp; rfl, by go_simp; rfl, by go_simp; rfl, by go_simp; rfl, by go_simp; rfl, by go_simp; rfl, fun o => by go_simp, Lib.hid (show Below _ _ _ from ?_), by simp, Lib.hid ⟨fun t h => by omega, fun t h => by omega, fun t h => by omega, fun t h => by omega, fun t h => by omega, fun t h => by omega⟩⟩
        ((repeat (first | (with_reducible refine balloc ?_ _) | (with_reducible refine Below.drew ?_) | (with_reducible refine below_drewN ?_ _) | ((with_reducible refine Below.setCell ?_ ?_ _); rotate_left; focus (first | omega | (simp; done) | (simp; omega))))); with_reducible exact Below.refl _ _)
      case round =>
        clear c0 c1 c2 c3 c4 c5 c6
        obtain ⟨j, hj, rfl, c0, c1, c2, c3, c4, c5, c6, hf, hBi, hwz, hIn⟩ := hrel
        have LV := Lib.hid lives_any
        have hcase : j = 0 ∨ j = 1 ∨ j = 2 ∨ j = 3 ∨ j = 4 ∨ j = 5 ∨ j = 6 := by omega
        rcases hcase with rfl | rfl | rfl | rfl | rfl | rfl | rfl
        · simp only [qv] at c1 c2 c3 c4 c5 c6
          by_cases hlo : A + 256 * x < -2147483648
          · have f1 : (A + 256 * x < -2147483648) = True := by simp; omega
            go_wp2_with (go_at_call 6; (with_reducible refine (LV.out _).mono ?_); rintro e w1 ⟨rfl, hb⟩; have B1 := Lib.hid (joinB (joinB hB.out hBi.out) hb); clear hb)
            go_ret
            exact ⟨rfl, B1.out⟩
          · have f1 : (A + 256 * x < -2147483648) = False := by simp; omega
            by_cases hhi : 2147483647 < A + 256 * x
            · have f2 : (A + 256 * x > 2147483647) = True := by simp; omega
              go_wp2_with (go_at_call 6; (with_reducible refine (LV.out _).mono ?_); rintro e w1 ⟨rfl, hb⟩; have B1 := Lib.hid (joinB (joinB hB.out hBi.out) hb); clear hb)
              go_ret
              exact ⟨rfl, B1.out⟩
            · have f2 : (A + 256 * x > 2147483647) = False := by simp; omega
              have g0 : -2147483648 ≤ A + 256 * x := by omega
              have g1 : A + 256 * x ≤ 2147483647 := by omega
              go_wp2_with fail
              go_roundw
              case rel =>
                obtain ⟨i0, i1, i2, i3, i4, i5⟩ := hIn.out
                refine ⟨_, (by omega : 0 + 1 ≤ 6), by go_num, by go_simp, by go_simp; rfl, by go_simp; rfl, by go_simp; rfl, by go_simp; rfl, by go_simp; rfl, by go_simp; rfl, fun o => by go_simp, Lib.hid (show Below wo.heap.size wo _ by (repeat (first | (with_reducible refine balloc ?_ _) | (with_reducible refine Below.drew ?_) | (with_reducible refine below_drewN ?_ _) | ((with_reducible refine Below.setCell ?_ ?_ _); rotate_left; focus (first | omega | (simp; done) | (simp; omega))))); with_reducible exact hBi.out), by simpa using hwz, Lib.hid ⟨?_, ?_, ?_, ?_, ?_, ?_⟩⟩
                all_goals (intro t h1 h2; first | (exact ⟨by omega, by omega⟩) | exact i0 t (by omega) h2 | exact i1 t (by omega) h2 | exact i2 t (by omega) h2 | exact i3 t (by omega) h2 | exact i4 t (by omega) h2 | exact i5 t (by omega) h2)
              case measure => simp [intOf]
        · simp only [qv] at c1 c2 c3 c4 c5 c6
          by_cases hlo : B + 256 * y < -2147483648
          · have f1 : (B + 256 * y < -2147483648) = True := by simp; omega
            go_wp2_with (go_at_call 6; (with_reducible refine (LV.out _).mono ?_); rintro e w1 ⟨rfl, hb⟩; have B1 := Lib.hid (joinB (joinB hB.out hBi.out) hb); clear hb)
            go_ret
            exact ⟨rfl, B1.out⟩
          · have f1 : (B + 256 * y < -2147483648) = False := by simp; omega
            by_cases hhi : 2147483647 < B + 256 * y
            · have f2 : (B + 256 * y > 2147483647) = True := by simp; omega
              go_wp2_with (go_at_call 6; (with_reducible refine (LV.out _).mono ?_); rintro e w1 ⟨rfl, hb⟩; have B1 := Lib.hid (joinB (joinB hB.out hBi.out) hb); clear hb)
              go_ret
              exact ⟨rfl, B1.out⟩
            · have f2 : (B + 256 * y > 2147483647) = False := by simp; omega
              have g0 : -2147483648 ≤ B + 256 * y := by omega
              have g1 : B + 256 * y ≤ 2147483647 := by omega
              go_wp2_with fail
              go_roundw
              case rel =>
                obtain ⟨i0, i1, i2, i3, i4, i5⟩ := hIn.out
                refine ⟨_, (by omega : 1 + 1 ≤ 6), by go_num, by go_simp, by go_simp; rfl, by go_simp; rfl, by go_simp; rfl, by go_simp; rfl, by go_simp; rfl, by go_simp; rfl, fun o => by go_simp, Lib.hid (show Below wo.heap.size wo _ by (repeat (first | (with_reducible refine balloc ?_ _) | (with_reducible refine Below.drew ?_) | (with_reducible refine below_drewN ?_ _) | ((with_reducible refine Below.setCell ?_ ?_ _); rotate_left; focus (first | omega | (simp; done) | (simp; omega))))); with_reducible exact hBi.out), by simpa using hwz, Lib.hid ⟨?_, ?_, ?_, ?_, ?_, ?_⟩⟩
                all_goals (intro t h1 h2; first | (exact ⟨by omega, by omega⟩) | exact i0 t (by omega) h2 | exact i1 t (by omega) h2 | exact i2 t (by omega) h2 | exact i3 t (by omega) h2 | exact i4 t (by omega) h2 | exact i5 t (by omega) h2)
              case measure => simp [intOf]
        · simp only [qv] at c1 c2 c3 c4 c5 c6
          by_cases hlo : C + 256 * x < -2147483648
          · have f1 : (C + 256 * x < -2147483648) = True := by simp; omega
            go_wp2_with (go_at_call 6; (with_reducible refine (LV.out _).mono ?_); rintro e w1 ⟨rfl, hb⟩; have B1 := Lib.hid (joinB (joinB hB.out hBi.out) hb); clear hb)
            go_ret
            exact ⟨rfl, B1.out⟩
          · have f1 : (C + 256 * x < -2147483648) = False := by simp; omega
            by_cases hhi : 2147483647 < C + 256 * x
            · have f2 : (C + 256 * x > 2147483647) = True := by simp; omega
              go_wp2_with (go_at_call 6; (with_reducible refine (LV.out _).mono ?_); rintro e w1 ⟨rfl, hb⟩; have B1 := Lib.hid (joinB (joinB hB.out hBi.out) hb); clear hb)
              go_ret
              exact ⟨rfl, B1.out⟩
            · have f2 : (C + 256 * x > 2147483647) = False := by simp; omega
              have g0 : -2147483648 ≤ C + 256 * x := by omega
              have g1 : C + 256 * x ≤ 2147483647 := by omega
              go_wp2_with fail
              go_roundw
              case rel =>
                obtain ⟨i0, i1, i2, i3, i4, i5⟩ := hIn.out
                refine ⟨_, (by omega : 2 + 1 ≤ 6), by go_num, by go_simp, by go_simp; rfl, by go_simp; rfl, by go_simp; rfl, by go_simp; rfl, by go_simp; rfl, by go_simp; rfl, fun o => by go_simp, Lib.hid (show Below wo.heap.size wo _ by (repeat (first | (with_reducible refine balloc ?_ _) | (with_reducible refine Below.drew ?_) | (with_reducible refine below_drewN ?_ _) | ((with_reducible refine Below.setCell ?_ ?_ _); rotate_left; focus (first | omega | (simp; done) | (simp; omega))))); with_reducible exact hBi.out), by simpa using hwz, Lib.hid ⟨?_, ?_, ?_, ?_, ?_, ?_⟩⟩
                all_goals (intro t h1 h2; first | (exact ⟨by omega, by omega⟩) | exact i0 t (by omega) h2 | exact i1 t (by omega) h2 | exact i2 t (by omega) h2 | exact i3 t (by omega) h2 | exact i4 t (by omega) h2 | exact i5 t (by omega) h2)
              case measure => simp [intOf]
        · simp only [qv] at c1 c2 c3 c4 c5 c6
          by_cases hlo : D + 256 * y < -2147483648
          · have f1 : (D + 256 * y < -2147483648) = True := by simp; omega
            go_wp2_with (go_at_call 6; (with_reducible refine (LV.out _).mono ?_); rintro e w1 ⟨rfl, hb⟩; have B1 := Lib.hid (joinB (joinB hB.out hBi.out) hb); clear hb)
            go_ret
            exact ⟨rfl, B1.out⟩
          · have f1 : (D + 256 * y < -2147483648) = False := by simp; omega
            by_cases hhi : 2147483647 < D + 256 * y
            · have f2 : (D + 256 * y > 2147483647) = True := by simp; omega
              go_wp2_with (go_at_call 6; (with_reducible refine (LV.out _).mono ?_); rintro e w1 ⟨rfl, hb⟩; have B1 := Lib.hid (joinB (joinB hB.out hBi.out) hb); clear hb)
              go_ret
              exact ⟨rfl, B1.out⟩
            · have f2 : (D + 256 * y > 2147483647) = False := by simp; omega
              have g0 : -2147483648 ≤ D + 256 * y := by omega
              have g1 : D + 256 * y ≤ 2147483647 := by omega
              go_wp2_with fail
              go_roundw
              case rel =>
                obtain ⟨i0, i1, i2, i3, i4, i5⟩ := hIn.out
                refine ⟨_, (by omega : 3 + 1 ≤ 6), by go_num, by go_simp, by go_simp; rfl, by go_simp; rfl, by go_simp; rfl, by go_simp; rfl, by go_simp; rfl, by go_simp; rfl, fun o => by go_simp, Lib.hid (show Below wo.heap.size wo _ by (repeat (first | (with_reducible refine balloc ?_ _) | (with_reducible refine Below.drew ?_) | (with_reducible refine below_drewN ?_ _) | ((with_reducible refine Below.setCell ?_ ?_ _); rotate_left; focus (first | omega | (simp; done) | (simp; omega))))); with_reducible exact hBi.out), by simpa using hwz, Lib.hid ⟨?_, ?_, ?_, ?_, ?_, ?_⟩⟩
                all_goals (intro t h1 h2; first | (exact ⟨by omega, by omega⟩) | exact i0 t (by omega) h2 | exact i1 t (by omega) h2 | exact i2 t (by omega) h2 | exact i3 t (by omega) h2 | exact i4 t (by omega) h2 | exact i5 t (by omega) h2)
              case measure => simp [intOf]
        · simp only [qv] at c1 c2 c3 c4 c5 c6
          by_cases hlo : E + 256 * x < -2147483648
          · have f1 : (E + 256 * x < -2147483648) = True := by simp; omega
            go_wp2_with (go_at_call 6; (with_reducible refine (LV.out _).mono ?_); rintro e w1 ⟨rfl, hb⟩; have B1 := Lib.hid (joinB (joinB hB.out hBi.out) hb); clear hb)
            go_ret
            exact ⟨rfl, B1.out⟩
          · have f1 : (E + 256 * x < -2147483648) = False := by simp; omega
            by_cases hhi : 2147483647 < E + 256 * x
            · have f2 : (E + 256 * x > 2147483647) = True := by simp; omega
              go_wp2_with (go_at_call 6; (with_reducible refine (LV.out _).mono ?_); rintro e w1 ⟨rfl, hb⟩; have B1 := Lib.hid (joinB (joinB hB.out hBi.out) hb); clear hb)
              go_ret
              exact ⟨rfl, B1.out⟩
            · have f2 : (E + 256 * x > 2147483647) = False := by simp; omega
              have g0 : -2147483648 ≤ E + 256 * x := by omega
              have g1 : E + 256 * x ≤ 2147483647 := by omega
              go_wp2_with fail
              go_roundw
              case rel =>
                obtain ⟨i0, i1, i2, i3, i4, i5⟩ := hIn.out
                refine ⟨_, (by omega : 4 + 1 ≤ 6), by go_num, by go_simp, by go_simp; rfl, by go_simp; rfl, by go_simp; rfl, by go_simp; rfl, by go_simp; rfl, by go_simp; rfl, fun o => by go_simp, Lib.hid (show Below wo.heap.size wo _ by (repeat (first | (with_reducible refine balloc ?_ _) | (with_reducible refine Below.drew ?_) | (with_reducible refine below_drewN ?_ _) | ((with_reducible refine Below.setCell ?_ ?_ _); rotate_left; focus (first | omega | (simp; done) | (simp; omega))))); with_reducible exact hBi.out), by simpa using hwz, Lib.hid ⟨?_, ?_, ?_, ?_, ?_, ?_⟩⟩
                all_goals (intro t h1 h2; first | (exact ⟨by omega, by omega⟩) | exact i0 t (by omega) h2 | exact i1 t (by omega) h2 | exact i2 t (by omega) h2 | exact i3 t (by omega) h2 | exact i4 t (by omega) h2 | exact i5 t (by omega) h2)
              case measure => simp [intOf]
        · simp only [qv] at c1 c2 c3 c4 c5 c6
          by_cases hlo : F + 256 * y < -2147483648
          · have f1 : (F + 256 * y < -2147483648) = True := by simp; omega
            go_wp2_with (go_at_call 6; (with_reducible refine (LV.out _).mono ?_); rintro e w1 ⟨rfl, hb⟩; have B1 := Lib.hid (joinB (joinB hB.out hBi.out) hb); clear hb)
            go_ret
            exact ⟨rfl, B1.out⟩
          · have f1 : (F + 256 * y < -2147483648) = False := by simp; omega
            by_cases hhi : 2147483647 < F + 256 * y
            · have f2 : (F + 256 * y > 2147483647) = True := by simp; omega
              go_wp2_with (go_at_call 6; (with_reducible refine (LV.out _).mono ?_); rintro e w1 ⟨rfl, hb⟩; have B1 := Lib.hid (joinB (joinB hB.out hBi.out) hb); clear hb)
              go_ret
              exact ⟨rfl, B1.out⟩
            · have f2 : (F + 256 * y > 2147483647) = False := by simp; omega
              have g0 : -2147483648 ≤ F + 256 * y := by omega
              have g1 : F + 256 * y ≤ 2147483647 := by omega
              go_wp2_with fail
              go_roundw
              case rel =>
                obtain ⟨i0, i1, i2, i3, i4, i5⟩ := hIn.out
                refine ⟨_, (by omega : 5 + 1 ≤ 6), by go_num, by go_simp, by go_simp; rfl, by go_simp; rfl, by go_simp; rfl, by go_simp; rfl, by go_simp; rfl, by go_simp; rfl, fun o => by go_simp, Lib.hid (show Below wo.heap.size wo _ by (repeat (first | (with_reducible refine balloc ?_ _) | (with_reducible refine Below.drew ?_) | (with_reducible refine below_drewN ?_ _) | ((with_reducible refine Below.setCell ?_ ?_ _); rotate_left; focus (first | omega | (simp; done) | (simp; omega))))); with_reducible exact hBi.out), by simpa using hwz, Lib.hid ⟨?_, ?_, ?_, ?_, ?_, ?_⟩⟩
                all_goals (intro t h1 h2; first | (exact ⟨by omega, by omega⟩) | exact i0 t (by omega) h2 | exact i1 t (by omega) h2 | exact i2 t (by omega) h2 | exact i3 t (by omega) h2 | exact i4 t (by omega) h2 | exact i5 t (by omega) h2)
              case measure => simp [intOf]
        · simp only [qv] at c1 c2 c3 c4 c5 c6
          have q1 : k + 1 ≤ maxLen := qmax _ (by omega)
          have q2 : (k + 1) * 28 ≤ 140737488355328 := q28 _ (by omega)
          have HRi := Lib.hid (ownsRow_below hR.out hBi.out)
          have HJ := Lib.hid (joinB hB.out hBi.out)
          have HFO : ∀ u ∈ Sg.vals (mvS x y ⟨K, A, B, C, D, E, F⟩), u.oneCell' = true := fun u hu => flat_one [mvS x y ⟨K, A, B, C, D, E, F⟩] u (by simpa using hu)
          have HFO := Lib.hid HFO
          go_wp2_with (at_builtin
                       refine wpList_append_any _ rfl _ _ 22 rfl w.heap.size 29 i0 _ 7 28 Try.underlying22 hi0 hz0 hz1 hz2 rfl (by omega) u7 k (((l.take k).map (mvS x y)).flatMap Sg.vals) rfl (HRi.out.alloc _) (wr.heap.size + 1) (some ⟨wr.heap.size, 0, none⟩) 1 1 (Sg.vals (mvS x y ⟨K, A, B, C, D, E, F⟩)) rfl (Reads.new rfl rfl _ rfl) HFO.out q1 q2 (by have := HJ.out.size; simp; omega) ?_
                       intro v3 w3 hown2 hg2 hat2
                       have B3 := Lib.hid (below_app (balloc HJ.out _) (HRi.out.alloc _) hg2)
                       have HO2 := Lib.hid hown2
                       clear hown2 hg2 hat2)
          go_roundw
          case rel =>
            refine ⟨k + 1, hlt, by go_num, Lib.hid ?_, Lib.hid ?_, B3⟩
            · rw [HMT.out, flat_snoc]; exact HO2.out
            · rw [HMT.out]
              intro s hs
              rcases List.mem_append.1 hs with h | h
              · exact hMok.out s h
              · rw [List.mem_singleton.1 h]
                obtain ⟨i0, i1, i2, i3, i4, i5⟩ := hIn.out
                exact ⟨⟨sk0, sk1⟩, i0 0 (by omega) rfl, i1 1 (by omega) rfl, i2 2 (by omega) rfl, i3 3 (by omega) rfl, i4 4 (by omega) rfl, i5 5 (by omega) rfl⟩
          case measure => simp [intOf]; omega
    · have hkl : k = l.length := by omega
      subst hkl
      rw [List.take_length] at hR hMok
      obtain ⟨A2, c2, hv2, hc1, hc2, hS2⟩ := segs_of_own hR.out (by rw [List.length_map])
      rw [List.length_map] at hv2 hc1
      subst hv2
      have HOM := Lib.hid (of_rd (l.map (mvS x y)) l.length (by rw [List.length_map]) (by omega) hMok.out (LA.map (List.map (mvD x y))) EA (by rw [pathsOf_mv, HA.out]) A2 c2 hc1 hc2)
      have HS2 := Lib.hid hS2
      have n1 := (len_small (by omega) HOK.out HA.out).1
      have n2 := Lib.hid (len_small (by omega) HOK.out HA.out).2
      clear hS2 hR hMok
      go_upto_region 19 with fail
      go_cut [13, 14] (fun s5 s6 wx => s6 = .int .i64 EA ∧ Hid (LinesRd wx s5 LA) ∧ Hid (Below wr.heap.size wr wx))
      case first =>
        go_wp2_with (go_at_call 7; (with_reducible refine (HOA.out _ (HS.out.later hB.out)).mono ?_); rintro e w5 ⟨⟨v, rfl, hL⟩, hb⟩; have B0 := Lib.hid hb; have HL := Lib.hid hL; clear hb hL)
        go_meet
        exact ⟨rfl, HL, B0⟩
      case rest =>
        obtain ⟨rfl, L1, HX⟩ := hcut
        have HS3 := Lib.hid (HS2.out.later HX.out)
        have HD := Lib.hid (joinB hB.out HX.out)
        clear HS2 HX hB
        go_upto_region 20 with fail
        go_cut [15, 16] (fun s5 s6 wx => s6 = .int .i64 EA ∧ Hid (LinesRd wx s5 (LA.map (List.map (mvD x y)))) ∧ Hid (Below wc.heap.size wc wx))
        case first =>
          go_wp2_with (go_at_call 7; (with_reducible refine (HOM.out _ HS3.out).mono ?_); rintro e w5 ⟨⟨v, rfl, hL⟩, hb⟩; have B0 := Lib.hid hb; have HL := Lib.hid hL; clear hb hL)
          go_meet
          exact ⟨rfl, HL, B0⟩
        case rest =>
          obtain ⟨rfl, L2, HX⟩ := hcut
          have L1' := Lib.hid (L1.out.below HX.out)
          have HD' := Lib.hid (joinB HD.out HX.out)
          clear L1 HX HD HS3 HOM HOA
          obtain ⟨A1, c1, rfl⟩ := L1'.out.form
          obtain ⟨A3, c3, hv3⟩ := L2.out.form
          rw [List.length_map] at hv3
          subst hv3
          go_wp2_with fail
          go_loopw [17] (fun i wr => ∃ k : Nat, k ≤ LA.length ∧ i = .int .i64 k ∧ Hid (Below wc.heap.size wc wr)) (fun i _ => LA.length - (intOf i).toNat)
          case atStart => exact ⟨0, by omega, rfl, Lib.hid (Below.refl _ _)⟩
          case round =>
            obtain ⟨k, hk, rfl, hB⟩ := hrel
            by_cases hlt : k < LA.length
            · obtain ⟨d, hd⟩ : ∃ d, LA[k]? = some d := ⟨_, List.getElem?_eq_getElem hlt⟩
              have hdl : d.length ≤ 1000000 := n2.out d (List.mem_of_getElem? hd)
              obtain ⟨g, e1', rfl, b0, hu1⟩ : ∃ (g : Nat) (u : Value), A1 = some ⟨g, 0, none⟩ ∧ wr.cell? ⟨g, k, none⟩ = some u ∧ Hid (DotsRd wr u d) := by
                rcases L1'.out.below hB.out with ⟨h, _⟩ | ⟨g, c, hv, hg, hc⟩
                · subst h; simp at hlt
                · cases hv
                  obtain ⟨u, hu, ho⟩ := hc k d hd
                  exact ⟨g, u, rfl, hu, ho⟩
              obtain ⟨q, e2', rfl, d0, hu2⟩ : ∃ (g : Nat) (u : Value), A3 = some ⟨g, 0, none⟩ ∧ wr.cell? ⟨g, k, none⟩ = some u ∧ Hid (DotsRd wr u (d.map (mvD x y))) := by
                rcases L2.out.below hB.out with ⟨h, _⟩ | ⟨g, c, hv, hg, hc⟩
                · simp at h; subst h; simp at hlt
                · rw [List.length_map] at hv; cases hv
                  obtain ⟨u, hu, ho⟩ := hc k (d.map (mvD x y)) (by rw [List.getElem?_map, hd]; rfl)
                  exact ⟨g, u, rfl, hu, ho⟩
              obtain ⟨a1, c1', rfl⟩ := hu1.out.form
              obtain ⟨a2, c2', hv2⟩ := hu2.out.form
              rw [List.length_map] at hv2
              subst hv2
              clear hd
              obtain ⟨wo, rfl⟩ : ∃ wo : World, wo = wr := ⟨_, rfl⟩
              go_wp2_with fail
              go_quiet (fail)
              go_wp2_with fail
              go_loopw [18] (fun i wi => ∃ j : Nat, j ≤ d.length ∧ i = .int .i64 j ∧ Hid (Below wo.heap.size wo wi)) (fun i _ => d.length - (intOf i).toNat)
              case atStart => exact ⟨0, by omega, rfl, Lib.hid (below_drewN (Below.refl _ _) _)⟩
              case round =>
                obtain ⟨j, hj, rfl, hBi⟩ := hrel
                have hbk : ∀ (b o : Nat) (u : Value), wo.cell? ⟨b, o, none⟩ = some u → wr.cell? ⟨b, o, none⟩ = some u := fun b o u h => by
                  have hlt : b < wo.heap.size := by
                    rcases Nat.lt_or_ge b wo.heap.size with h1 | h1
                    · exact h1
                    · simp [World.cell?, Array.getElem?_eq_none h1] at h
                  exact (hBi.out.cell (p := ⟨b, o, none⟩) hlt).trans h
                have b1 := hbk _ _ _ b0
                have d1 := hbk _ _ _ d0
                by_cases hlj : j < d.length
                · obtain ⟨⟨X, Y⟩, hdj⟩ : ∃ e, d[j]? = some e := ⟨_, List.getElem?_eq_getElem hlj⟩
                  obtain ⟨ga, rfl, p0, p1⟩ : ∃ g : Nat, a1 = some ⟨g, 0, none⟩ ∧ wo.cell? ⟨g, j * 2, none⟩ = some (.int .i64 X) ∧ wo.cell? ⟨g, j * 2 + 1, none⟩ = some (.int .i64 Y) := by
                    rcases hu1.out with ⟨h, _⟩ | ⟨g, c, hv, hg, hc⟩
                    · subst h; simp at hlj
                    · cases hv
                      have := dotVals_at d j _ hdj
                      exact ⟨g, rfl, hc _ _ this.1, hc _ _ this.2⟩
                  obtain ⟨gb, rfl, r0, r1⟩ : ∃ g : Nat, a2 = some ⟨g, 0, none⟩ ∧ wo.cell? ⟨g, j * 2, none⟩ = some (.int .i64 (X + x)) ∧ wo.cell? ⟨g, j * 2 + 1, none⟩ = some (.int .i64 (Y + y)) := by
                    rcases hu2.out with ⟨h, _⟩ | ⟨g, c, hv, hg, hc⟩
                    · simp at h; subst h; simp at hlj
                    · rw [List.length_map] at hv; cases hv
                      have := dotVals_at (d.map (mvD x y)) j (mvD x y (X, Y)) (by rw [List.getElem?_map, hdj]; rfl)
                      exact ⟨g, rfl, hc _ _ this.1, hc _ _ this.2⟩
                  have p0' := hbk _ _ _ p0
                  have p1' := hbk _ _ _ p1
                  have r0' := hbk _ _ _ r0
                  have r1' := hbk _ _ _ r1
                  clear hdj b0 d0 p0 p1 r0 r1 hbk
                  obtain ⟨X', hX⟩ : ∃ X', X + x = X' := ⟨_, rfl⟩
                  obtain ⟨Y', hY⟩ : ∃ Y', Y + y = Y' := ⟨_, rfl⟩
                  rw [hX] at r0'
                  rw [hY] at r1'
                  have f1 : IntKind.i64.wrap (X' - X) = x := by rw [show X' - X = x by omega]; exact IntWalk.i64_in _ (by omega)
                  have f2 : IntKind.i64.wrap (Y' - Y) = y := by rw [show Y' - Y = y by omega]; exact IntWalk.i64_in _ (by omega)
                  clear hX hY
                  go_wp2_with fail
                  go_quiet (fail)
                  go_wp2_with fail
                  go_roundw
                  case rel => exact ⟨j + 1, hlj, by go_num, Lib.hid (below_drewN hBi.out _)⟩
                  case measure => simp [intOf]; omega
                · have hjl : j = d.length := by omega
                  subst hjl
                  go_wp2_with fail
                  go_roundw
                  case rel => exact ⟨k + 1, hlt, by go_num, joinB hB.out hBi.out⟩
                  case measure => simp [intOf]; omega
            · have hkl : k = LA.length := by omega
              subst hkl
              go_wp2_with (go_at_call 6; (with_reducible refine (lives_any _).mono ?_); rintro e w1 ⟨rfl, hb⟩; have B1 := Lib.hid (joinB (joinB HD'.out hB.out) hb); clear hb)
              go_ret
              exact ⟨rfl, B1.out⟩

end Go.Proofs.Ytbhpfhggcdccjaa
