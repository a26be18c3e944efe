/- The contract of the function line of the package paths of the program: the dots of one sub-path. -/
import Derived.Test.YtbhpfhggcdccjaaLinePlain
import Derived.Deep.RegionHeld3
import Derived.Maps.AppendAt
namespace Go.Proofs.Ytbhpfhggcdccjaa
open Go.RowKit Go.Proofs.WPlain

theorem Try.info36 : (Try.prog.info? 36).map (fun i => (i.zero, i.size, i.bytes)) = some (some (.agg #[.int .i64 0, .int .i64 0]), 2, 16) := by kernel_rfl

theorem ownsRow_below {w w' : World} {base : Nat} {e : TypeId} {size : Nat} {v : Value} {n : Nat} {xs : List Value} (h : w.ownsRow base e size v n xs) (hb : Below w.heap.size w w') : w'.ownsRow base e size v n xs := by
  obtain ⟨hl, h | ⟨g, cap, cur, h1, h2, h3, h4⟩⟩ := h
  · exact ⟨hl, .inl h⟩
  · exact ⟨hl, .inr ⟨g, cap, cur, h1, h2, (hb.block g (Array.getElem?_eq_some_iff.1 h3).1).trans h3, h4⟩⟩

theorem ownBlock_ge {w : World} {base : Nat} {e : TypeId} {size : Nat} {v : Value} {n : Nat} {xs : List Value} (h : w.ownsRow base e size v n xs) : ∀ k, v.ownBlock = some k → base ≤ k := by
  obtain ⟨_, ⟨hv, _⟩ | ⟨g, cap, cur, hv, hg, _⟩⟩ := h
  · subst hv; intro k hk; cases hk
  · subst hv; intro k hk; cases hk; exact hg

/-- A store elsewhere lets a row be. -/
theorem ownsRow_setCell_far {w : World} {base : Nat} {e : TypeId} {size : Nat} {v : Value} {n : Nat} {xs : List Value} (h : w.ownsRow base e size v n xs) {p : Addr} (hp : ∀ k, v.ownBlock = some k → k < p.block) (u : Value) : (w.setCell p u).ownsRow base e size v n xs := by
  obtain ⟨hl, h | ⟨g, cap, cur, h1, h2, h3, h4⟩⟩ := h
  · exact ⟨hl, .inl h⟩
  · refine ⟨hl, .inr ⟨g, cap, cur, h1, h2, ?_, h4⟩⟩
    have : g < p.block := hp g (by rw [h1]; rfl)
    rw [Below.heap_setCell _ _ _ _ (by omega)]; exact h3

theorem ownBlock_lt {w : World} {base : Nat} {e : TypeId} {size : Nat} {v : Value} {n : Nat} {xs : List Value} (h : w.ownsRow base e size v n xs) : ∀ k, v.ownBlock = some k → k < w.heap.size := by
  obtain ⟨_, ⟨hv, _⟩ | ⟨g, cap, cur, hv, hg, h3, _⟩⟩ := h
  · subst hv; intro k hk; cases hk
  · subst hv; intro k hk; cases hk; exact (Array.getElem?_eq_some_iff.1 h3).1

/-- A slice's segments lie in memory, below a mark. -/
def SegsAt (W : World) (n₀ : Nat) (a : Option Addr) (l : List Sg) : Prop :=
  l = [] ∨ ∃ b off : Nat, a = some ⟨b, off, none⟩ ∧ b < n₀ ∧ ∀ (i : Nat) (s : Sg), l[i]? = some s → ∀ (j : Nat) (v : Value), s.vals[j]? = some v → W.cell? ⟨b, off + i * 7 + j, none⟩ = some v

theorem SegsAt.below {W W' : World} {n₀ : Nat} {a : Option Addr} {l : List Sg} (h : SegsAt W n₀ a l) (hb : Below n₀ W W') : SegsAt W' n₀ a l := by
  rcases h with h | ⟨b, off, ha, hlt, hc⟩
  · exact .inl h
  · exact .inr ⟨b, off, ha, hlt, fun i s hi j v hv => (hb.cell (p := ⟨b, _, none⟩) hlt).trans (hc i s hi j v hv)⟩

/-- A slice whose dots can be read, in blocks from one mark to another one; no room behind. -/
def DotsAt (W : World) (lo hi : Nat) (v : Value) (l : List (Int × Int)) : Prop :=
  (l = [] ∧ ∃ a, v = .slice a 0 0) ∨ ∃ g : Nat, v = .slice (some ⟨g, 0, none⟩) l.length l.length ∧ lo ≤ g ∧ g < hi ∧ ∀ (j : Nat) (u : Value), (dotVals l)[j]? = some u → W.cell? ⟨g, j, none⟩ = some u

set_option maxHeartbeats 8000000 in
theorem line_any (a : Option Addr) (cap : Nat) (l : List Sg) (w : World) (hl : l.length ≤ 1000000) (hok : ∀ s ∈ l, s.ok) (hs : SegsAt w w.heap.size a l) :
    Calls Try.prog 13 #[.slice a l.length cap] w fun e w' => (∃ v, e = .returned v ∧ DotsAt w' w.heap.size w'.heap.size v (lineDots l)) ∧ Below w.heap.size w w' := by
  obtain ⟨i0, hi, iz0, iz1, iz2⟩ := info_parts Try.info36
  go_enter Try.func13, Try.ntmps13
  go_wp2
  go_loopw [2, 11] (fun v i wr => ∃ k : Nat, k ≤ l.length ∧ i = .int .i64 k ∧ wr.ownsRow (w.heap.size + 1) 36 2 v (lineSt (l.take k)).l.length (dotVals (lineSt (l.take k)).l) ∧
      wr.cell? ⟨w.heap.size, 0, none⟩ = some (.int .i64 (lineSt (l.take k)).x) ∧ wr.cell? ⟨w.heap.size, 1, none⟩ = some (.int .i64 (lineSt (l.take k)).y) ∧ (∀ o, wr.frozen? ⟨w.heap.size, o, none⟩ = false) ∧ Hid (Below w.heap.size w wr) ∧ w.heap.size < wr.heap.size)
    (fun _ i _ => l.length - (intOf i).toNat)
  case atStart =>
    refine ⟨0, by omega, rfl, World.ownsRow_nil _ _ _ _, by go_simp; rfl, by go_simp; rfl, fun o => by go_simp, Lib.hid (show Below _ _ _ from ?_), by simp⟩
    ((repeat (first | (with_reducible refine balloc ?_ _) | (with_reducible refine Below.drew ?_) | (with_reducible refine below_drewN ?_ _) | ((with_reducible refine Below.setCell ?_ ?_ _); rotate_left; focus (first | omega | (simp; done) | (simp; omega))))); with_reducible exact Below.refl _ _)
  case round =>
    obtain ⟨k, hk, rfl, hrow, x0, y0, hfr, hB, hz⟩ := hrel
    by_cases hlt : k < l.length
    · obtain ⟨s, hsk⟩ : ∃ s, l[k]? = some s := ⟨_, List.getElem?_eq_getElem hlt⟩
      have hso := hok s (List.mem_of_getElem? hsk)
      obtain ⟨b, off, rfl, hbl, hcs⟩ : ∃ b off : Nat, a = some ⟨b, off, none⟩ ∧ b < w.heap.size ∧ ∀ (j : Nat) (v : Value), s.vals[j]? = some v → wr.cell? ⟨b, off + k * 7 + j, none⟩ = some v := by
        rcases hs.below hB.out with h | ⟨b, off, ha, hbl, hc⟩
        · subst h; simp at hlt
        · exact ⟨b, off, ha, hbl, hc k s hsk⟩
      have htk : l.take (k + 1) = l.take k ++ [s] := by rw [List.take_add_one, hsk]; rfl
      obtain ⟨hx, hy, hlen⟩ := lineSt_b (l.take k) (fun u hu => hok u (List.mem_of_mem_take hu))
      have hlk : (l.take k).length = k := by simp; omega
      have HT := Lib.hid htk
      obtain ⟨T, hT⟩ : ∃ T, lineSt (l.take k) = T := ⟨_, rfl⟩
      have HS : Hid (lineSt (l.take (k + 1)) = lineStep T s) := by
        have : lineSt (l.take (k + 1)) = lineStep T s := by rw [htk, lineSt_snoc, hT]
        exact this
      rw [hT] at hrow x0 y0 hx hy hlen
      rw [hlk] at hlen
      clear htk hT hlk
      obtain ⟨⟨s0, s1⟩, ⟨sa0, sa1⟩, ⟨sb0, sb1⟩, ⟨sc0, sc1⟩, ⟨sd0, sd1⟩, ⟨se0, se1⟩, ⟨sf0, sf1⟩⟩ := hso
      obtain ⟨K, A, B, C, D, E, F⟩ := s
      obtain ⟨X, Y, L⟩ := T
      simp only [] at hx hy hlen hrow x0 y0 s0 s1 sa0 sa1 sb0 sb1 sc0 sc1 sd0 sd1 se0 se1 sf0 sf1
      have c0 : wr.cell? ⟨b, off + k * 7, none⟩ = some (.int .u8 K) := hcs 0 _ rfl
      have c1 := hcs 1 _ rfl
      have c2 := hcs 2 _ rfl
      have c3 := hcs 3 _ rfl
      have c4 := hcs 4 _ rfl
      have c5 := hcs 5 _ rfl
      have c6 := hcs 6 _ rfl
      clear hcs
      obtain ⟨hx0, hx1⟩ := hx
      obtain ⟨hy0, hy1⟩ := hy
      by_cases hK : K = 2
      · subst hK
        have hz1 : b < wr.heap.size := by omega
        have AT0 := at0_any 2 A B C D E F
        have AT1 := at1_any 2 A B C D E F
        have AT2 := at2_any 2 A B C D E F
        have LV := level_any X Y A B C D E F
        have CD := fun i n => curveDot_any X Y A B C D E F i n
        obtain ⟨kl, ekl⟩ : ∃ k : Nat, levelZ (3 * bendZ X Y A B C D E F) = k := ⟨_, rfl⟩
        have kl6 : kl ≤ 6 := by rw [← ekl]; exact levelZ_le _
        have hpc : Hid (piecesZ X Y ⟨2, A, B, C, D, E, F⟩ = 2 ^ kl) := by
          have : piecesZ X Y ⟨2, A, B, C, D, E, F⟩ = 2 ^ kl := by simp [piecesZ, ekl]
          exact this
        rw [ekl] at LV
        clear ekl
        have HR := Lib.hid hrow
        clear hrow hs hok
        go_upto_region 6 with fail
        go_cut [6] (fun v wx => ∃ p : Nat, v = .pointer (some ⟨p, 0, none⟩) ∧ wr.heap.size < p ∧ p < wx.heap.size ∧ Eight wx p X Y A B C D E F ∧ wx.cell? ⟨w.heap.size, 0, none⟩ = some (.int .i64 X) ∧ wx.cell? ⟨w.heap.size, 1, none⟩ = some (.int .i64 Y) ∧
          (∀ o, wx.frozen? ⟨w.heap.size, o, none⟩ = false) ∧ Hid (Below w.heap.size w wx) ∧ Hid (wx.ownsRow (w.heap.size + 1) 36 2 u2 L.length (dotVals L)) ∧ w.heap.size < wx.heap.size)
        case first =>
          clear c0 c1 c2 c3 c4 c5 c6 LV CD hx0 hx1 hy0 hy1
          have zr1 : w.heap.size < wr.heap.size + 1 := by omega
          have zr2 : w.heap.size < wr.heap.size + 1 + 1 := by omega
          go_region_held3 (fun w' => w'.cell? ⟨w.heap.size, 0, none⟩ = some (.int .i64 X) ∧ w'.cell? ⟨w.heap.size, 1, none⟩ = some (.int .i64 Y) ∧ w'.cell? ⟨wr.heap.size, 0, none⟩ = some (.int .u8 2) ∧ w'.cell? ⟨wr.heap.size, 1, none⟩ = some (.int .i32 A) ∧ w'.cell? ⟨wr.heap.size, 2, none⟩ = some (.int .i32 B) ∧ w'.cell? ⟨wr.heap.size, 3, none⟩ = some (.int .i32 C) ∧ w'.cell? ⟨wr.heap.size, 4, none⟩ = some (.int .i32 D) ∧ w'.cell? ⟨wr.heap.size, 5, none⟩ = some (.int .i32 E) ∧ w'.cell? ⟨wr.heap.size, 6, none⟩ = some (.int .i32 F)) ((repeat' apply And.intro) <;> go_simp)
            (first
              | (go_at_call 19; (with_reducible refine (AT0 _ sa0 sa1 sb0 sb1).mono ?_); rintro e wa ⟨rfl, hb⟩; obtain ⟨hca, hfa⟩ := bcell hb; have za : w.heap.size < wa.heap.size := (by have := hb.size; first | omega | (simp at this; omega)); have zap : w.heap.size < wa.heap.size + 1 := (by omega); have zaq : wr.heap.size < wa.heap.size + 1 := (by have := hb.size; first | omega | (simp at this; omega)); (try have za0 : wr.heap.size < wa.heap.size := (by have := hb.size; first | omega | (simp at this; omega))); (try have za1 : wr.heap.size + 1 < wa.heap.size := (by have := hb.size; first | omega | (simp at this; omega))); have HRa := Lib.hid (ownsRow_below (by first | exact HR.out | exact HR.out.alloc _ | exact (HR.out.alloc _).alloc _) hb); have Ba := Lib.hid (joinB (show Below w.heap.size w _ by (repeat (first | (with_reducible refine balloc ?_ _) | (with_reducible refine Below.drew ?_) | (with_reducible refine below_drewN ?_ _) | ((with_reducible refine Below.setCell ?_ ?_ _); rotate_left; focus (first | omega | (simp; done) | (simp; omega))))); with_reducible exact hB.out) hb); clear hb)
              | (go_at_call 19; (with_reducible refine (AT1 _ sc0 sc1 sd0 sd1).mono ?_); rintro e wb ⟨rfl, hb⟩; obtain ⟨hcb, hfb⟩ := bcell hb; have zb : w.heap.size < wb.heap.size := (by have := hb.size; first | omega | (simp at this; omega)); have zbp : w.heap.size < wb.heap.size + 1 := (by omega); have zbq : wr.heap.size < wb.heap.size + 1 := (by have := hb.size; first | omega | (simp at this; omega)); (try have zb0 : wr.heap.size < wb.heap.size := (by have := hb.size; first | omega | (simp at this; omega))); (try have zb1 : wr.heap.size + 1 < wb.heap.size := (by have := hb.size; first | omega | (simp at this; omega))); (try have zb2 : wa.heap.size < wb.heap.size := (by have := hb.size; first | omega | (simp at this; omega))); have HRb := Lib.hid (ownsRow_below (by first | exact HRa.out | exact HRa.out.alloc _ | exact (HRa.out.alloc _).alloc _) hb); have Bb := Lib.hid (joinB (show Below w.heap.size w _ by (repeat (first | (with_reducible refine balloc ?_ _) | (with_reducible refine Below.drew ?_) | (with_reducible refine below_drewN ?_ _) | ((with_reducible refine Below.setCell ?_ ?_ _); rotate_left; focus (first | omega | (simp; done) | (simp; omega))))); with_reducible exact Ba.out) hb); clear hb)
              | (go_at_call 19; (with_reducible refine (AT2 _ se0 se1 sf0 sf1).mono ?_); rintro e wc ⟨rfl, hb⟩; obtain ⟨hcc, hfc⟩ := bcell hb; have zc : w.heap.size < wc.heap.size := (by have := hb.size; first | omega | (simp at this; omega)); have zcp : w.heap.size < wc.heap.size + 1 := (by omega); have zcq : wr.heap.size < wc.heap.size + 1 := (by have := hb.size; first | omega | (simp at this; omega)); (try have zc0 : wr.heap.size < wc.heap.size := (by have := hb.size; first | omega | (simp at this; omega))); (try have zc1 : wr.heap.size + 1 < wc.heap.size := (by have := hb.size; first | omega | (simp at this; omega))); (try have zc2 : wa.heap.size < wc.heap.size := (by have := hb.size; first | omega | (simp at this; omega))); (try have zc3 : wb.heap.size < wc.heap.size := (by have := hb.size; first | omega | (simp at this; omega))); have HRc := Lib.hid (ownsRow_below (by first | exact HRb.out | exact HRb.out.alloc _ | exact (HRb.out.alloc _).alloc _) hb); have Bc := Lib.hid (joinB (show Below w.heap.size w _ by (repeat (first | (with_reducible refine balloc ?_ _) | (with_reducible refine Below.drew ?_) | (with_reducible refine below_drewN ?_ _) | ((with_reducible refine Below.setCell ?_ ?_ _); rotate_left; focus (first | omega | (simp; done) | (simp; omega))))); with_reducible exact Bb.out) hb); clear hb))
          all_goals
            go_wp2_with fail
            go_meet
            refine ⟨_, rfl, (by first | omega | (simp; done) | (simp; omega)), (by first | omega | (simp; done) | (simp; omega)), ⟨by go_simp, by go_simp, by go_simp, by go_simp, by go_simp, by go_simp, by go_simp, by go_simp⟩, by go_simp, by go_simp, fun o => by go_simp, Lib.hid (show Below w.heap.size w _ by (repeat (first | (with_reducible refine balloc ?_ _) | (with_reducible refine Below.drew ?_) | (with_reducible refine below_drewN ?_ _) | ((with_reducible refine Below.setCell ?_ ?_ _); rotate_left; focus (first | omega | (simp; done) | (simp; omega))))); with_reducible exact Bc.out),
              Lib.hid (by first | with_reducible exact HRc.out.alloc _ | ((repeat ((with_reducible refine ownsRow_setCell_far ?_ ?_ _); rotate_left; focus (intro k hk; exact Nat.lt_of_lt_of_le (ownBlock_lt HR.out k hk) (by dsimp only; omega)))); with_reducible exact HRc.out)), (by first | omega | (simp; done) | (simp; omega))⟩
        case rest =>
          obtain ⟨p, rfl, hp1, hp2, hE, x0, y0, hfr, hB, HR', hz⟩ := hcut
          have hE' := Lib.hid hE
          obtain ⟨m0, m1, m2, m3, m4, m5, m6, m7⟩ := hE
          obtain ⟨N, hN⟩ : ∃ N : Nat, 2 ^ kl = N := ⟨_, rfl⟩
          have hNle : N ≤ 64 := by rw [← hN]; exact Nat.pow_le_pow_right (n := 2) (by decide) kl6
          have hN1 : 1 ≤ N := by rw [← hN]; exact Nat.pow_pos (by decide)
          have HW : Hid (wrap64 (2 ^ kl) = (N : Int)) := by
            have h : wrap64 (2 ^ kl) = (N : Int) := by
              have e : ((2 : Int) ^ kl) = (N : Int) := by rw [← hN]; simp
              rw [e]; unfold wrap64; omega
            exact h
          have hpc' : piecesZ X Y ⟨2, A, B, C, D, E, F⟩ = N := by rw [hpc.out, hN]
          obtain ⟨f, hf0, hf1, hfN, hfl⟩ : ∃ f : Nat → List (Int × Int), f 0 = [] ∧ (∀ m, f (m + 1) = f m ++ [(cubicZ X A C E ((m : Int) + 1) N, cubicZ Y B D F ((m : Int) + 1) N)]) ∧
              Hid (lineStep ⟨X, Y, L⟩ ⟨2, A, B, C, D, E, F⟩ = ⟨E, F, L ++ f N⟩) ∧ (∀ m, (f m).length = m) := by
            refine ⟨curveDots X Y ⟨2, A, B, C, D, E, F⟩, rfl, fun m => by rw [curveDots_succ, hpc'], ?_, fun m => curveDots_length _ _ _ _⟩
            have : lineStep ⟨X, Y, L⟩ ⟨2, A, B, C, D, E, F⟩ = ⟨E, F, L ++ curveDots X Y ⟨2, A, B, C, D, E, F⟩ N⟩ := by simp [lineStep, hpc']
            exact this
          have hrb : ∀ q, u2.ownBlock = some q → q ≠ p := fun q hq => by have := ownBlock_lt HR.out q hq; omega
          have HF0 := Lib.hid hf0
          have HF1 := Lib.hid hf1
          have HRB := Lib.hid hrb
          have HFL := Lib.hid hfl
          clear hf0 hf1 hrb hfl hN hpc hpc' HR hz1 c0 c1 c2 c3 c4 c5 c6
          go_wp2_with (go_at_call 20; (with_reducible refine (LV _ hx0 hx1 hy0 hy1 sa0 sa1 sb0 sb1 sc0 sc1 sd0 sd1 se0 se1 sf0 sf1).mono ?_); rintro e wl ⟨rfl, hb⟩)
          rw [HW.out]
          clear HW
          have hE2 := hE'.out.below hb hp2
          have x2 : wl.cell? ⟨w.heap.size, 0, none⟩ = some (.int .i64 X) := (hb.cell (p := ⟨w.heap.size, 0, none⟩) hz).trans x0
          have y2 : wl.cell? ⟨w.heap.size, 1, none⟩ = some (.int .i64 Y) := (hb.cell (p := ⟨w.heap.size, 1, none⟩) hz).trans y0
          have fr2 : ∀ o, wl.frozen? ⟨w.heap.size, o, none⟩ = false := fun o => (hb.frozen (p := ⟨w.heap.size, o, none⟩) hz).trans (hfr o)
          have hR2 := ownsRow_below HR'.out hb
          have hR2' : wl.ownsRow (w.heap.size + 1) 36 2 u2 (L.length + 0) (dotVals (L ++ f 0)) := by rw [HF0.out, List.append_nil]; exact hR2
          have hB2 := Lib.hid (hB.out.trans (hb.mono hB.out.size))
          have hz2 : w.heap.size < wl.heap.size := Nat.lt_of_lt_of_le hz hb.size
          have hp3 : p < wl.heap.size := Nat.lt_of_lt_of_le hp2 hb.size
          clear kl6 hE' x0 y0 hfr HR' hB hz hp2 hb LV m0 m1 m2 m3 m4 m5 m6 m7
          go_loopw [2, 30] (fun v i wi => ∃ m : Nat, m ≤ N ∧ i = .int .i64 m ∧ wi.ownsRow (w.heap.size + 1) 36 2 v (L.length + m) (dotVals (L ++ f m)) ∧ Hid (∀ q, v.ownBlock = some q → q ≠ p) ∧ Eight wi p X Y A B C D E F ∧
              wi.cell? ⟨w.heap.size, 0, none⟩ = some (.int .i64 X) ∧ wi.cell? ⟨w.heap.size, 1, none⟩ = some (.int .i64 Y) ∧ (∀ o, wi.frozen? ⟨w.heap.size, o, none⟩ = false) ∧ Hid (Below w.heap.size w wi) ∧ w.heap.size < wi.heap.size ∧ p < wi.heap.size)
            (fun _ i _ => N - (intOf i).toNat)
          case atStart => exact ⟨0, Nat.zero_le _, rfl, hR2', HRB, hE2, x2, y2, fr2, hB2, hz2, hp3⟩
          case round =>
            clear hE2 x2 y2 fr2 hR2 hR2' hB2 hz2 hp3 HRB
            obtain ⟨m, hm, rfl, hR, HRB, hE, x0, y0, hfr, hB, hz, hp2⟩ := hrel
            have hE' := Lib.hid hE
            obtain ⟨m0, m1, m2, m3, m4, m5, m6, m7⟩ := hE
            have HRow := Lib.hid hR
            clear hR
            by_cases hmN : m < N
            · have CDm := CD ((m : Int) + 1) (N : Int)
              obtain ⟨cx, ecx⟩ : ∃ c, cubicZ X A C E ((m : Int) + 1) N = c := ⟨_, rfl⟩
              obtain ⟨cy, ecy⟩ : ∃ c, cubicZ Y B D F ((m : Int) + 1) N = c := ⟨_, rfl⟩
              rw [ecx, ecy] at CDm
              have HFm : Hid (f (m + 1) = f m ++ [(cx, cy)]) := by
                have : f (m + 1) = f m ++ [(cx, cy)] := by rw [HF1.out, ecx, ecy]
                exact this
              clear ecx ecy
              have cap1 : L.length + m + 1 ≤ maxLen := by unfold maxLen; omega
              have cap2 : (L.length + m + 1) * 16 ≤ 140737488355328 := by omega
              go_wp2_with (first
                | (go_at_call 21; (with_reducible refine (CDm _ hx0 hx1 hy0 hy1 sa0 sa1 sb0 sb1 sc0 sc1 sd0 sd1 se0 se1 sf0 sf1 (by omega) (by omega) (by omega)).mono ?_); rintro e w1 ⟨rfl, hb⟩; have HR2 := Lib.hid (ownsRow_below HRow.out hb); have HB1 := Lib.hid hb; clear hb)
                | (at_builtin; refine wpList_append_own_at _ rfl _ _ 34 rfl (w.heap.size + 1) 36 i0 (.agg #[.int .i64 0, .int .i64 0]) 2 16 Try.underlying34 hi iz0 iz1 iz2 rfl (by decide) _ _ _ rfl (HR2.out.alloc _) ⟨w1.heap.size, 0, none⟩ 1 1 [.int .i64 cx, .int .i64 cy] rfl rfl (cell_two_new _ _ _ _) ?c2 cap1 cap2 ?c5 ?_))
              case c2 => intro u hu; simp at hu; rcases hu with rfl | rfl <;> rfl
              case c5 => have := HB1.out.size; simp; omega
              · intro v' w' hown' hgrow _ hat
                have hX : Below wr.heap.size wr (w1.alloc (.cells #[.int .i64 cx, .int .i64 cy] 36)) := balloc HB1.out _
                have hEX := hE'.out.below hX hp2
                have hpX : p < (w1.alloc (.cells #[.int .i64 cx, .int .i64 cy] 36)).heap.size := Nat.lt_of_lt_of_le hp2 hX.size
                have hcp : ∀ o, w'.cell? ⟨p, o, none⟩ = (w1.alloc (.cells #[.int .i64 cx, .int .i64 cy] 36)).cell? ⟨p, o, none⟩ := fun o => World.cell?_of_block (hgrow.block p hpX (fun e => HRB.out p e.symm rfl))
                have hE3 : Hid (Eight w' p X Y A B C D E F) := by
                  obtain ⟨n0, n1, n2, n3, n4, n5, n6, n7⟩ := hEX
                  exact ⟨(hcp _).trans n0, (hcp _).trans n1, (hcp _).trans n2, (hcp _).trans n3, (hcp _).trans n4, (hcp _).trans n5, (hcp _).trans n6, (hcp _).trans n7⟩
                have hbase : w.heap.size + 1 ≤ (w1.alloc (.cells #[.int .i64 cx, .int .i64 cy] 36)).heap.size := Nat.le_trans hz hX.size
                have hG : Below (w.heap.size + 1) (w1.alloc (.cells #[.int .i64 cx, .int .i64 cy] 36)) w' := (Below.refl _ _).grown hgrow hbase (ownBlock_ge HR2.out)
                have x3 : w'.cell? ⟨w.heap.size, 0, none⟩ = some (.int .i64 X) := (hG.cell (p := ⟨w.heap.size, 0, none⟩) (Nat.lt_succ_self _)).trans ((hX.cell (p := ⟨w.heap.size, 0, none⟩) hz).trans x0)
                have y3 : w'.cell? ⟨w.heap.size, 1, none⟩ = some (.int .i64 Y) := (hG.cell (p := ⟨w.heap.size, 1, none⟩) (Nat.lt_succ_self _)).trans ((hX.cell (p := ⟨w.heap.size, 1, none⟩) hz).trans y0)
                have fr3 : ∀ o, w'.frozen? ⟨w.heap.size, o, none⟩ = false := fun o => (hG.frozen (p := ⟨w.heap.size, o, none⟩) (Nat.lt_succ_self _)).trans ((hX.frozen (p := ⟨w.heap.size, o, none⟩) hz).trans (hfr o))
                have B3 := Lib.hid ((joinB hB.out hX).trans (hG.mono (Nat.le_succ _)))
                have z3 : w.heap.size < w'.heap.size := Nat.lt_of_lt_of_le hz (Nat.le_trans hX.size hG.size)
                have p3 : p < w'.heap.size := Nat.lt_of_lt_of_le hpX hG.size
                have HRB3 : Hid (∀ q, v'.ownBlock = some q → q ≠ p) := by
                  have h : ∀ q, v'.ownBlock = some q → q ≠ p := fun q hq => by
                    rcases hat with h | h
                    · exact HRB.out q (h ▸ hq)
                    · rw [h] at hq
                      simp at hq hpX
                      have := HB1.out.size
                      omega
                  exact h
                have HO : Hid (w'.ownsRow (w.heap.size + 1) 36 2 v' (L.length + (m + 1)) (dotVals (L ++ f (m + 1)))) := by
                  have h : w'.ownsRow (w.heap.size + 1) 36 2 v' (L.length + (m + 1)) (dotVals (L ++ f (m + 1))) := by
                    rw [HFm.out, ← List.append_assoc, dotVals_append, dotVals_one, ← Nat.add_assoc]; exact hown'
                  exact h
                clear hown' hgrow hat hX hEX hpX hcp hG hbase hE' m0 m1 m2 m3 m4 m5 m6 m7 x0 y0 hfr HR2 HRow HRB hB HFm
                go_wp2
                go_roundw
                case rel => exact ⟨m + 1, hmN, by go_num, HO.out, HRB3, hE3.out, x3, y3, fr3, B3, z3, p3⟩
                case measure => simp [intOf]; omega
            · have hmN' : m = N := by omega
              subst hmN'
              clear hE' m0 m1 m2 m3 m4 m5 HRB HF0 HF1
              have hl2 : Hid ((L ++ f m).length = L.length + m) := by
                have : (L ++ f m).length = L.length + m := by rw [List.length_append, HFL.out]
                exact this
              go_wp2
              go_roundw
              case rel =>
                refine ⟨k + 1, hlt, by go_num, ?_, ?_, ?_, fun o => by go_simp, Lib.hid (show Below w.heap.size w _ by (repeat (first | (with_reducible refine balloc ?_ _) | (with_reducible refine Below.drew ?_) | (with_reducible refine below_drewN ?_ _) | ((with_reducible refine Below.setCell ?_ ?_ _); rotate_left; focus (first | omega | (simp; done) | (simp; omega))))); with_reducible exact hB.out), by simpa using hz⟩
                · rw [HS.out, hfN.out]
                  show World.ownsRow _ _ _ _ _ (L ++ f m).length (dotVals (L ++ f m))
                  rw [hl2.out]
                  exact ownsRow_setCell_below (ownsRow_setCell_below HRow.out (Nat.lt_succ_self _) _) (Nat.lt_succ_self _) _
                · rw [HS.out, hfN.out]; go_simp
                · rw [HS.out, hfN.out]; go_simp
              case measure => simp [intOf]; omega
      · have hKb : (K == 2) = false := by simp; omega
        have hz1 : b < wr.heap.size := by omega
        have AT := at0_any K A B C D E F
        have PD := placeDot_any A B
        clear hx0 hx1 hy0 hy1 hs hok
        have cap1 : L.length + 1 ≤ maxLen := by unfold maxLen; omega
        have cap2 : (L.length + 1) * 16 ≤ 140737488355328 := by omega
        have HR := Lib.hid hrow
        clear hrow
        go_wp2_with (first
          | (go_at_call 19; (with_reducible refine (AT _ sa0 sa1 sb0 sb1).mono ?_); rintro e w1 ⟨rfl, hb⟩; obtain ⟨hc, hf⟩ := bcell hb; have HR1 := Lib.hid (ownsRow_below (HR.out.alloc _) hb); have k0 : w1.cell? ⟨w.heap.size, 0, none⟩ = some (.int .i64 X) := (hc _ _ (by first | omega | (simp; done) | (simp; omega))).trans (by go_simp); have k1 : w1.cell? ⟨w.heap.size, 1, none⟩ = some (.int .i64 Y) := (hc _ _ (by first | omega | (simp; done) | (simp; omega))).trans (by go_simp); have g0 : ∀ o, w1.frozen? ⟨w.heap.size, o, none⟩ = false := fun o => (hf _ o (by first | omega | (simp; done) | (simp; omega))).trans (by go_simp); have hz : w.heap.size < w1.heap.size := (by have := hb.size; (first | omega | (simp at this; omega))); have B1 := Lib.hid (joinB (show Below w.heap.size w _ by (repeat (first | (with_reducible refine balloc ?_ _) | (with_reducible refine Below.drew ?_) | (with_reducible refine below_drewN ?_ _) | ((with_reducible refine Below.setCell ?_ ?_ _); rotate_left; focus (first | omega | (simp; done) | (simp; omega))))); first | with_reducible exact B1.out | with_reducible exact hB.out | with_reducible exact Below.refl _ _) hb); clear hb hc hf)
          | (go_at_call 22; (with_reducible refine (PD _ (by omega) (by omega) (by omega) (by omega)).mono ?_); rintro e w1 ⟨rfl, hb⟩; obtain ⟨hc, hf⟩ := bcell hb; have HR2 := Lib.hid (ownsRow_below (ownsRow_setCell_below (ownsRow_setCell_below HR1.out (Nat.lt_succ_self _) _) (Nat.lt_succ_self _) _) hb); have k0 : w1.cell? ⟨w.heap.size, 0, none⟩ = some (.int .i64 A) := (hc _ _ (by first | omega | (simp; done) | (simp; omega))).trans (by go_simp); have k1 : w1.cell? ⟨w.heap.size, 1, none⟩ = some (.int .i64 B) := (hc _ _ (by first | omega | (simp; done) | (simp; omega))).trans (by go_simp); have g0 : ∀ o, w1.frozen? ⟨w.heap.size, o, none⟩ = false := fun o => (hf _ o (by first | omega | (simp; done) | (simp; omega))).trans (by go_simp); have hz : w.heap.size < w1.heap.size := (by have := hb.size; (first | omega | (simp at this; omega))); have B1 := Lib.hid (joinB (show Below w.heap.size w _ by (repeat (first | (with_reducible refine balloc ?_ _) | (with_reducible refine Below.drew ?_) | (with_reducible refine below_drewN ?_ _) | ((with_reducible refine Below.setCell ?_ ?_ _); rotate_left; focus (first | omega | (simp; done) | (simp; omega))))); first | with_reducible exact B1.out | with_reducible exact hB.out | with_reducible exact Below.refl _ _) hb); clear hb hc hf)
          | (at_builtin; go_loud (refine wpList_append_own _ rfl _ _ 34 rfl (w.heap.size + 1) 36 i0 (.agg #[.int .i64 0, .int .i64 0]) 2 16 Try.underlying34 hi iz0 iz1 iz2 rfl (by decide) _ _ _ rfl (HR2.out.alloc _) ⟨w1.heap.size, 0, none⟩ 1 1 [.int .i64 (nearZ A 256), .int .i64 (nearZ B 256)] rfl rfl (cell_two_new _ _ _ _) ?c2 cap1 cap2 ?c5 ?_)))
        case c2 => intro u hu; simp at hu; rcases hu with rfl | rfl <;> rfl
        case c5 => simp; omega
        · intro v' w' hown' hgrow _
          have hG : Below (w.heap.size + 1) (w1.alloc (.cells #[.int .i64 (nearZ A 256), .int .i64 (nearZ B 256)] 36)) w' := (Below.refl _ _).grown hgrow (by simp; omega) (ownBlock_ge HR2.out)
          have e0 : w'.cell? ⟨w.heap.size, 0, none⟩ = some (.int .i64 A) := (hG.cell (p := ⟨w.heap.size, 0, none⟩) (Nat.lt_succ_self _)).trans (by go_simp)
          have e1 : w'.cell? ⟨w.heap.size, 1, none⟩ = some (.int .i64 B) := (hG.cell (p := ⟨w.heap.size, 1, none⟩) (Nat.lt_succ_self _)).trans (by go_simp)
          have e2 : ∀ o, w'.frozen? ⟨w.heap.size, o, none⟩ = false := fun o => (hG.frozen (p := ⟨w.heap.size, o, none⟩) (Nat.lt_succ_self _)).trans (by go_simp)
          have hB' := Lib.hid ((balloc B1.out (.cells #[.int .i64 (nearZ A 256), .int .i64 (nearZ B 256)] 36)).trans (hG.mono (by omega)))
          have hz' : w.heap.size < w'.heap.size := by have := hG.size; simp at this; omega
          have HO := Lib.hid hown'
          clear hown' hgrow hG
          go_wp2
          go_roundw
          case rel =>
            have hst : lineStep ⟨X, Y, L⟩ ⟨K, A, B, C, D, E, F⟩ = ⟨A, B, L ++ [(nearZ A 256, nearZ B 256)]⟩ := by simp [lineStep, hK]
            refine ⟨k + 1, by omega, by go_num, ?_, ?_, ?_, e2, hB', hz'⟩
            · rw [HS.out, hst, dotVals_append, dotVals_one]; simpa using HO.out
            · rw [HS.out, hst]; exact e0
            · rw [HS.out, hst]; exact e1
          case measure => simp [intOf]; omega
    · have hkl : k = l.length := by omega
      subst hkl
      rw [List.take_length] at hrow x0 y0
      obtain ⟨hlen, ⟨rfl, hn⟩ | ⟨g, cap', cur, rfl, hg, hcur, hn, hm, hsz, hxs⟩⟩ := hrow
      · have hnil : lineDots l = [] := List.eq_nil_of_length_eq_zero hn
        go_wp2
        go_ret
        exact ⟨⟨_, rfl, .inl ⟨hnil, _, rfl⟩⟩, hB.out⟩
      · obtain ⟨L, hL⟩ : ∃ L, (lineSt l).l = L := ⟨_, rfl⟩
        rw [hL] at hlen hn hxs
        rw [hL]
        have HL : Hid (lineDots l = L) := hL
        clear hL
        unfold maxLen at hm
        have hn' : L.length ≤ cap' := hn
        have hD : DotsAt wr w.heap.size wr.heap.size (.slice (some ⟨g, 0, none⟩) L.length L.length) L := by
          refine .inr ⟨g, rfl, by omega, (Array.getElem?_eq_some_iff.1 hcur).1, fun j u hu => ?_⟩
          have h1 : (cur.toList.take (L.length * 2))[j]? = some u := by rw [hxs]; exact hu
          have h2 : cur[j]? = some u := by
            rw [List.getElem?_take] at h1
            split at h1
            · simpa using h1
            · cases h1
          simp [World.cell?, hcur, h2]
        have HD := Lib.hid hD
        clear hD hcur hxs hlen hsz
        go_wp2
        go_ret
        exact ⟨⟨_, rfl, by rw [HL.out]; exact HD.out⟩, hB.out⟩

end Go.Proofs.Ytbhpfhggcdccjaa
