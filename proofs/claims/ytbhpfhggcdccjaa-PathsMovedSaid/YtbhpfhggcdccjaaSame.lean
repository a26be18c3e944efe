/- The contracts of the helpers that compare lines. -/
import Derived.Test.YtbhpfhggcdccjaaOf
namespace Go.Proofs.Ytbhpfhggcdccjaa
open Go.RowKit Go.Proofs.WPlain

/-- A slice whose dots can be read. -/
def DotsRd (W : World) (v : Value) (l : List (Int × Int)) : Prop :=
  (l = [] ∧ ∃ a c, v = .slice a 0 c) ∨ ∃ g c : Nat, v = .slice (some ⟨g, 0, none⟩) l.length c ∧ g < W.heap.size ∧ ∀ (j : Nat) (u : Value), (dotVals l)[j]? = some u → W.cell? ⟨g, j, none⟩ = some u
theorem DotsAt.rd {W : World} {lo hi : Nat} {v : Value} {l : List (Int × Int)} (h : DotsAt W lo hi v l) (hh : hi ≤ W.heap.size) : DotsRd W v l := by
  rcases h with ⟨h, a, e⟩ | ⟨g, hv, h1, h2, h3⟩
  · exact .inl ⟨h, a, 0, e⟩
  · exact .inr ⟨g, _, hv, by omega, h3⟩
theorem DotsRd.below {W W' : World} {v : Value} {l : List (Int × Int)} (h : DotsRd W v l) (hb : Below W.heap.size W W') : DotsRd W' v l := by
  rcases h with h | ⟨g, c, hv, hg, hc⟩
  · exact .inl h
  · exact .inr ⟨g, c, hv, Nat.lt_of_lt_of_le hg hb.size, fun j u hu => (hb.cell (p := ⟨g, j, none⟩) hg).trans (hc j u hu)⟩
theorem DotsRd.form {W : World} {v : Value} {l : List (Int × Int)} (h : DotsRd W v l) : ∃ a c, v = .slice a l.length c := by
  rcases h with ⟨h, a, c, e⟩ | ⟨g, c, e, _⟩
  · exact ⟨a, c, by rw [h]; exact e⟩
  · exact ⟨_, _, e⟩

theorem dotVals_at : ∀ (l : List (Int × Int)) (k : Nat) (d : Int × Int), l[k]? = some d → (dotVals l)[k * 2]? = some (.int .i64 d.1) ∧ (dotVals l)[k * 2 + 1]? = some (.int .i64 d.2)
  | [], k, d, h => by simp at h
  | e :: l, 0, d, h => by simp at h; subst h; exact ⟨rfl, rfl⟩
  | e :: l, k + 1, d, h => by
    have := dotVals_at l k d (by simpa using h)
    have e1 : (k + 1) * 2 = k * 2 + 1 + 1 := by omega
    rw [e1]
    exact this

set_option maxHeartbeats 2000000 in
theorem same_any (va vb : Value) (l m : List (Int × Int)) (w : World) (hl : l.length ≤ 1000000) (ha : DotsRd w va l) (hb : DotsRd w vb m) :
    Calls Try.prog 15 #[va, vb] w fun e w' => e = .returned (.bool (decide (l = m))) ∧ Below w.heap.size w w' := by
  obtain ⟨aa, ac, rfl⟩ := ha.form
  obtain ⟨ba, bc, rfl⟩ := hb.form
  go_enter Try.func15, Try.ntmps15
  by_cases hlm : l.length = m.length
  · rw [← hlm]
    have HA := Lib.hid ha
    have HB := Lib.hid hb
    have HL := Lib.hid hlm
    clear ha hb hlm
    go_wp2
    go_loopw [5] (fun i wr => ∃ k : Nat, k ≤ l.length ∧ i = .int .i64 k ∧ Hid (l.take k = m.take k) ∧ Hid (Below w.heap.size w wr))
      (fun i _ => l.length - (intOf i).toNat)
    case atStart => exact ⟨0, by omega, rfl, Lib.hid (by simp), Lib.hid (Below.refl _ _)⟩
    case round =>
      obtain ⟨k, hk, rfl, hT, hB⟩ := hrel
      by_cases hlt : k < l.length
      · obtain ⟨⟨x, y⟩, hlk⟩ : ∃ d, l[k]? = some d := ⟨_, List.getElem?_eq_getElem hlt⟩
        obtain ⟨⟨z, t⟩, hmk⟩ : ∃ d, m[k]? = some d := ⟨_, List.getElem?_eq_getElem (by have := HL.out; omega)⟩
        obtain ⟨g, rfl, c0, c1⟩ : ∃ g : Nat, aa = some ⟨g, 0, none⟩ ∧ wr.cell? ⟨g, k * 2, none⟩ = some (.int .i64 x) ∧ wr.cell? ⟨g, k * 2 + 1, none⟩ = some (.int .i64 y) := by
          rcases HA.out.below hB.out with ⟨h, _⟩ | ⟨g, c, hv, hg, hc⟩
          · subst h; simp at hlt
          · cases hv
            have := dotVals_at l k _ hlk
            exact ⟨g, rfl, hc _ _ this.1, hc _ _ this.2⟩
        obtain ⟨q, rfl, d0, d1⟩ : ∃ q : Nat, ba = some ⟨q, 0, none⟩ ∧ wr.cell? ⟨q, k * 2, none⟩ = some (.int .i64 z) ∧ wr.cell? ⟨q, k * 2 + 1, none⟩ = some (.int .i64 t) := by
          rcases HB.out.below hB.out with ⟨h, _⟩ | ⟨q, c, hv, hg, hc⟩
          · subst h; simp at hmk
          · rw [← HL.out] at hv; cases hv
            have := dotVals_at m k _ hmk
            exact ⟨q, rfl, hc _ _ this.1, hc _ _ this.2⟩
        have ht1 : Hid (l.take (k + 1) = l.take k ++ [(x, y)]) := by
          have h : l.take (k + 1) = l.take k ++ [(x, y)] := by rw [List.take_add_one, hlk]; rfl
          exact h
        have ht2 : Hid (m.take (k + 1) = m.take k ++ [(z, t)]) := by
          have h : m.take (k + 1) = m.take k ++ [(z, t)] := by rw [List.take_add_one, hmk]; rfl
          exact h
        clear hlk hmk
        by_cases hxz : x = z
        · by_cases hyt : y = t
          · subst hxz hyt
            go_wp2_with fail
            go_region
            go_wp2
            go_roundw
            case rel => exact ⟨k + 1, hlt, by go_num, Lib.hid (by rw [ht1.out, ht2.out, hT.out]), Lib.hid (hB.out.drew)⟩
            case measure => simp [intOf]; omega
          · go_wp2_with fail
            go_region
            go_wp2
            go_ret
            refine ⟨?_, hB.out.drew⟩
            have : decide (l = m) = false := by
              rw [decide_eq_false_iff_not]
              intro e
              have h := ht1.out
              rw [e, ht2.out] at h
              have := List.append_cancel_left h
              simp at this
              exact hyt this.2.symm
            rw [this]; rfl
        · go_wp2_with fail
          go_region
          go_wp2
          go_ret
          refine ⟨?_, hB.out.drew⟩
          have : decide (l = m) = false := by
            rw [decide_eq_false_iff_not]
            intro e
            have h := ht1.out
            rw [e, ht2.out] at h
            have := List.append_cancel_left h
            simp at this
            exact hxz this.1.symm
          rw [this]; rfl
      · have hkl : k = l.length := by omega
        subst hkl
        go_wp2
        go_ret
        refine ⟨?_, hB.out⟩
        have : decide (l = m) = true := by
          rw [decide_eq_true_iff]
          have h := hT.out
          rwa [List.take_length, HL.out, List.take_length] at h
        rw [this]; rfl
  · have hne : ¬ ((l.length : Int) = m.length) := by omega
    have hd : decide (l = m) = false := by simp; intro e; exact hlm (by rw [e])
    rw [hd]
    go_wp2
    go_ret
    exact ⟨rfl, Below.refl _ _⟩

/-- Lines that can be read. -/
def LinesRd (W : World) (v : Value) (ls : List (List (Int × Int))) : Prop :=
  (ls = [] ∧ ∃ a c, v = .slice a 0 c) ∨ ∃ g c : Nat, v = .slice (some ⟨g, 0, none⟩) ls.length c ∧ g < W.heap.size ∧ ∀ (j : Nat) (d : List (Int × Int)), ls[j]? = some d → ∃ u, W.cell? ⟨g, j, none⟩ = some u ∧ DotsRd W u d
theorem LinesAt.rd {W : World} {lo : Nat} {v : Value} {ls : List (List (Int × Int))} (h : LinesAt W lo v ls) : LinesRd W v ls := by
  rcases h with ⟨h, a, e⟩ | ⟨g, hv, h1, h2, h3⟩
  · exact .inl ⟨h, a, 0, e⟩
  · refine .inr ⟨g, _, hv, h2, fun j d hd => ?_⟩
    obtain ⟨u, hu, ho⟩ := h3 j d hd
    exact ⟨u, hu, ho.rd (Nat.le_refl _)⟩
theorem LinesRd.below {W W' : World} {v : Value} {ls : List (List (Int × Int))} (h : LinesRd W v ls) (hb : Below W.heap.size W W') : LinesRd W' v ls := by
  rcases h with h | ⟨g, c, hv, hg, hc⟩
  · exact .inl h
  · refine .inr ⟨g, c, hv, Nat.lt_of_lt_of_le hg hb.size, fun j d hd => ?_⟩
    obtain ⟨u, hu, ho⟩ := hc j d hd
    exact ⟨u, (hb.cell (p := ⟨g, j, none⟩) hg).trans hu, ho.below hb⟩
theorem LinesRd.form {W : World} {v : Value} {ls : List (List (Int × Int))} (h : LinesRd W v ls) : ∃ a c, v = .slice a ls.length c := by
  rcases h with ⟨h, a, c, e⟩ | ⟨g, c, e, _⟩
  · exact ⟨a, c, by rw [h]; exact e⟩
  · exact ⟨_, _, e⟩

set_option maxHeartbeats 2000000 in
theorem sameLines_any (va vb : Value) (l m : List (List (Int × Int))) (w : World) (hl : l.length ≤ 1000000) (hd : ∀ d ∈ l, d.length ≤ 1000000) (ha : LinesRd w va l) (hb : LinesRd w vb m) :
    Calls Try.prog 8 #[va, vb] w fun e w' => e = .returned (.bool (decide (l = m))) ∧ Below w.heap.size w w' := by
  obtain ⟨aa, ac, rfl⟩ := ha.form
  obtain ⟨ba, bc, rfl⟩ := hb.form
  go_enter Try.func8, Try.ntmps8
  by_cases hlm : l.length = m.length
  · rw [← hlm]
    have HA := Lib.hid ha
    have HB := Lib.hid hb
    have HL := Lib.hid hlm
    have HD := Lib.hid hd
    clear ha hb hlm hd
    go_wp2
    go_loopw [5] (fun i wr => ∃ k : Nat, k ≤ l.length ∧ i = .int .i64 k ∧ Hid (l.take k = m.take k) ∧ Hid (Below w.heap.size w wr))
      (fun i _ => l.length - (intOf i).toNat)
    case atStart => exact ⟨0, by omega, rfl, Lib.hid (by simp), Lib.hid (Below.refl _ _)⟩
    case round =>
      obtain ⟨k, hk, rfl, hT, hB⟩ := hrel
      by_cases hlt : k < l.length
      · obtain ⟨x, hlk⟩ : ∃ d, l[k]? = some d := ⟨_, List.getElem?_eq_getElem hlt⟩
        obtain ⟨z, hmk⟩ : ∃ d, m[k]? = some d := ⟨_, List.getElem?_eq_getElem (by have := HL.out; omega)⟩
        obtain ⟨g, u1, rfl, c0, hu1⟩ : ∃ (g : Nat) (u : Value), aa = some ⟨g, 0, none⟩ ∧ wr.cell? ⟨g, k, none⟩ = some u ∧ Hid (DotsRd wr u x) := by
          rcases HA.out.below hB.out with ⟨h, _⟩ | ⟨g, c, hv, hg, hc⟩
          · subst h; simp at hlt
          · cases hv
            obtain ⟨u, hu, ho⟩ := hc k x hlk
            exact ⟨g, u, rfl, hu, ho⟩
        obtain ⟨q, u2, rfl, d0, hu2⟩ : ∃ (q : Nat) (u : Value), ba = some ⟨q, 0, none⟩ ∧ wr.cell? ⟨q, k, none⟩ = some u ∧ Hid (DotsRd wr u z) := by
          rcases HB.out.below hB.out with ⟨h, _⟩ | ⟨q, c, hv, hg, hc⟩
          · subst h; simp at hmk
          · rw [← HL.out] at hv; cases hv
            obtain ⟨u, hu, ho⟩ := hc k z hmk
            exact ⟨q, u, rfl, hu, ho⟩
        have ht1 : Hid (l.take (k + 1) = l.take k ++ [x]) := by
          have h : l.take (k + 1) = l.take k ++ [x] := by rw [List.take_add_one, hlk]; rfl
          exact h
        have ht2 : Hid (m.take (k + 1) = m.take k ++ [z]) := by
          have h : m.take (k + 1) = m.take k ++ [z] := by rw [List.take_add_one, hmk]; rfl
          exact h
        have hxl : x.length ≤ 1000000 := HD.out x (List.mem_of_getElem? hlk)
        clear hlk hmk
        have SM := same_any u1 u2 x z wr.drew hxl (hu1.out.below (Below.refl _ _).drew) (hu2.out.below (Below.refl _ _).drew)
        by_cases hxz : x = z
        · have hdt : decide (x = z) = true := by simp [hxz]
          rw [hdt] at SM
          go_wp2_with fail
          go_region_with (go_at_call 15; (with_reducible refine SM.mono ?_); rintro e w1 ⟨rfl, hb⟩; have B1 := Lib.hid (hB.out.drew.trans (hb.mono hB.out.size)); clear hb)
          all_goals
            go_wp2
            go_roundw
            case rel => exact ⟨k + 1, hlt, by go_num, Lib.hid (by rw [ht1.out, ht2.out, hT.out, hxz]), B1⟩
            case measure => simp [intOf]; omega
        · have hdt : decide (x = z) = false := by simp [hxz]
          rw [hdt] at SM
          go_wp2_with fail
          go_region_with (go_at_call 15; (with_reducible refine SM.mono ?_); rintro e w1 ⟨rfl, hb⟩; have B1 := Lib.hid (hB.out.drew.trans (hb.mono hB.out.size)); clear hb)
          all_goals
            go_wp2
            go_ret
            refine ⟨?_, B1.out⟩
            have : decide (l = m) = false := by
              rw [decide_eq_false_iff_not]
              intro e
              have h := ht1.out
              rw [e, ht2.out] at h
              have := List.append_cancel_left h
              simp at this
              exact hxz this.symm
            rw [this]; rfl
      · have hkl : k = l.length := by omega
        subst hkl
        go_wp2
        go_ret
        refine ⟨?_, hB.out⟩
        have : decide (l = m) = true := by
          rw [decide_eq_true_iff]
          have h := hT.out
          rwa [List.take_length, HL.out, List.take_length] at h
        rw [this]; rfl
  · have hne : ¬ ((l.length : Int) = m.length) := by omega
    have hd : decide (l = m) = false := by simp; intro e; exact hlm (by rw [e])
    rw [hd]
    go_wp2
    go_ret
    exact ⟨rfl, Below.refl _ _⟩

end Go.Proofs.Ytbhpfhggcdccjaa
