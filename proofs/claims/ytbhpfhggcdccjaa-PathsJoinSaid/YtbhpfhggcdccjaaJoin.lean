/- The walk of the statement PathsJoin. -/
import Derived.Test.YtbhpfhggcdccjaaForm
import Derived.Test.YtbhpfhggcdccjaaJoinPlain
import Derived.Test.YtbhpfhggcdccjaaReads
namespace Go.Proofs.Ytbhpfhggcdccjaa
open Go.RowKit Go.Proofs.WPlain

theorem Try.info29 : (Try.prog.info? 29).map (fun i => (i.zero, i.size, i.bytes)) = some (some (.agg #[.int .u8 0, .int .i32 0, .int .i32 0, .int .i32 0, .int .i32 0, .int .i32 0, .int .i32 0]), 7, 28) := by kernel_rfl

/-- The lines of a path that lies somewhere. -/
theorem of_rd (l : List Sg) (N : Nat) (hN : l.length = N) (hl : N ≤ 1000) (hok : ∀ s ∈ l, s.ok) (L : List (List (Int × Int))) (E : Int) (hp : pathsOf l = (L, E)) (a : Option Addr) (cap : Nat) (hc : N ≤ cap) (hcm : cap ≤ 9223372036854775807) (w : World) (hs : SegsAt w w.heap.size a l) :
    Calls Try.prog 7 #[.slice a N cap] w fun e w' => (∃ v, e = .returned (.tuple #[v, .int .i64 E]) ∧ LinesRd w' v L) ∧ Below w.heap.size w w' := by
  have h := ofPath_any a cap l w (by omega) (by omega) (by omega) hok hs
  rw [hN, hp] at h
  exact h.mono fun e w' ⟨⟨v, he, hL⟩, hb⟩ => ⟨⟨v, he, hL.rd⟩, hb⟩

theorem SegsAt.later {W W' : World} {a : Option Addr} {l : List Sg} (h : SegsAt W W.heap.size a l) (hb : Below W.heap.size W W') : SegsAt W' W'.heap.size a l := (h.below hb).mono hb.size

theorem own_nil (W : World) (base : Nat) (e : TypeId) (size : Nat) : W.ownsRow base e size (.slice none 0 0) 0 [] := ⟨by simp, .inl ⟨rfl, rfl⟩⟩
theorem below_app {W w1 w2 : World} {v : Value} {e : TypeId} {size n : Nat} {xs : List Value} (hB : Below W.heap.size W w1) (ho : w1.ownsRow W.heap.size e size v n xs) (hg : w1.grownBy w2 v.ownBlock) : Below W.heap.size W w2 :=
  hB.grown hg hB.size (ownBlock_ge ho)

theorem q28 (n : Nat) (h : n ≤ 1000) : n * 28 ≤ 140737488355328 := by omega
theorem qmax (n : Nat) (h : n ≤ 1000) : n ≤ maxLen := by unfold maxLen; omega

set_option maxRecDepth 100000 in
set_option maxHeartbeats 8000000 in
theorem join_walk (a b : Option Addr) (capa capb : Nat) (l m : List Sg) (w : World) (hca : l.length ≤ capa) (hcam : capa ≤ 9223372036854775807) (hcb : m.length ≤ capb) (hcbm : capb ≤ 9223372036854775807)
    (hok : ∀ s ∈ l, s.ok) (hok' : ∀ s ∈ m, s.ok) (hs : SegsAt w w.heap.size a l) (hs' : SegsAt w w.heap.size b m) :
    Calls Try.prog 4 #[.slice a l.length capa, .slice b m.length capb] w fun e w' => e = .returned (.bool true) ∧ Below w.heap.size w w' := by
  by_cases h100 : 100 < l.length
  · have e1 : ((l.length : Int) > 100) = True := by simp; omega
    go_enter Try.func4, Try.ntmps4
    go_wp2_with (go_at_call 6; (with_reducible refine (lives_any _).mono ?_); rintro e w1 ⟨rfl, hb⟩; have B1 := Lib.hid hb; clear hb)
    go_ret
    exact ⟨rfl, B1.out⟩
  by_cases h100' : 100 < m.length
  · have e1 : ((l.length : Int) > 100) = False := by simp; omega
    have e2 : ((m.length : Int) > 100) = True := by simp; omega
    go_enter Try.func4, Try.ntmps4
    go_wp2_with (go_at_call 6; (with_reducible refine (lives_any _).mono ?_); rintro e w1 ⟨rfl, hb⟩; have B1 := Lib.hid hb; clear hb)
    go_ret
    exact ⟨rfl, B1.out⟩
  have e1 : ((l.length : Int) > 100) = False := by simp; omega
  have e2 : ((m.length : Int) > 100) = False := by simp; omega
  obtain ⟨LA, EA, hA⟩ : ∃ L E, pathsOf l = (L, E) := ⟨_, _, rfl⟩
  obtain ⟨LB, EB, hB⟩ : ∃ L E, pathsOf m = (L, E) := ⟨_, _, rfl⟩
  obtain ⟨LC, EC, hC⟩ : ∃ L E, pathsOf (l ++ m) = (L, E) := ⟨_, _, rfl⟩
  have OA := of_rd l l.length rfl (by omega) hok LA EA hA a capa hca hcam
  have OB := of_rd m m.length rfl (by omega) hok' LB EB hB b capb hcb hcbm
  obtain ⟨N, hN⟩ : ∃ N, (l ++ m).length = N := ⟨_, rfl⟩
  have hNl : N = l.length + m.length := by rw [← hN, List.length_append]
  have okC : ∀ s ∈ l ++ m, s.ok := fun s h => (List.mem_append.1 h).elim (hok s) (hok' s)
  have OC := of_rd (l ++ m) N hN (by omega) okC LC EC hC
  have OA := Lib.hid OA
  have OB := Lib.hid OB
  have OC := Lib.hid OC
  have HA := Lib.hid hA
  have HB := Lib.hid hB
  have HC := Lib.hid hC
  have HN := Lib.hid hN
  have HNl := Lib.hid hNl
  have HOK := Lib.hid hok
  have HOK' := Lib.hid hok'
  have HS := Lib.hid hs
  have HS' := Lib.hid hs'
  clear hA hB hC hN hNl hok hok' hs hs' okC
  obtain ⟨i0, hi0, hz0, hz1, hz2⟩ := info_parts Try.info29
  go_enter Try.func4, Try.ntmps4
  go_upto_region 3 with fail
  go_cut [5, 6] (fun s5 s6 wx => s6 = .int .i64 EA ∧ Hid (LinesRd wx s5 LA) ∧ Hid (Below w.heap.size w wx))
  case first =>
    go_wp2_with (go_at_call 7; (with_reducible refine (OA.out _ HS.out).mono ?_); rintro e w5 ⟨⟨v, rfl, hL⟩, hb⟩; have B0 := Lib.hid hb; have HL := Lib.hid hL; clear hb hL)
    go_meet
    exact ⟨rfl, HL, B0⟩
  case rest =>
    obtain ⟨rfl, L1, HD⟩ := hcut
    go_upto_region 4 with fail
    go_cut [7, 8] (fun s7 s8 wx => s8 = .int .i64 EB ∧ Hid (LinesRd wx s7 LB) ∧ Hid (Below wc.heap.size wc wx))
    case first =>
      go_wp2_with (go_at_call 7; (with_reducible refine (OB.out _ (HS'.out.later HD.out)).mono ?_); rintro e w5 ⟨⟨v, rfl, hL⟩, hb⟩; have B0 := Lib.hid hb; have HL := Lib.hid hL; clear hb hL)
      go_meet
      exact ⟨rfl, HL, B0⟩
    case rest =>
      obtain ⟨rfl, L2, HX⟩ := hcut
      have L1' := Lib.hid (L1.out.below HX.out)
      have HD' := Lib.hid (joinB HD.out HX.out)
      clear L1 HD HX
      go_upto_region 5 with fail
      go_cut [9, 10] (fun s9 s10 wx => s10 = .int .i64 EC ∧ Hid (LinesRd wx s9 LC) ∧ Hid (Below wc.heap.size wc wx))
      case first =>
        have RA := Lib.hid (HS.out.later HD'.out).reads
        have RB := Lib.hid (HS'.out.later HD'.out).reads
        have q1 : 0 + l.length ≤ maxLen := qmax _ (by omega)
        have q2 : (0 + l.length) * 28 ≤ 140737488355328 := q28 _ (by omega)
        have q3 : 0 + l.length + m.length ≤ maxLen := qmax _ (by omega)
        have q4 : (0 + l.length + m.length) * 28 ≤ 140737488355328 := q28 _ (by omega)
        go_wp2_with (first
          | (at_builtin
             refine wpList_append_any _ rfl _ _ 22 rfl wc.heap.size 29 i0 _ 7 28 Try.underlying22 hi0 hz0 hz1 hz2 rfl (by omega) (.slice none 0 0) 0 [] rfl (own_nil _ _ _ _) wc.heap.size a l.length capa (l.flatMap Sg.vals) rfl RA.out (flat_one l) q1 q2 (Nat.le_refl _) ?_
             intro v1 w1 hown1 hg1 hat1
             have B1 := Lib.hid (below_app (Below.refl _ _) (own_nil wc wc.heap.size 0 1) hg1)
             have HO1 := Lib.hid hown1
             clear hown1 hg1 hat1)
          | (at_builtin
             refine wpList_append_any _ rfl _ _ 22 rfl wc.heap.size 29 i0 _ 7 28 Try.underlying22 hi0 hz0 hz1 hz2 rfl (by omega) v1 (0 + l.length) ([] ++ l.flatMap Sg.vals) rfl HO1.out wc.heap.size b m.length capb (m.flatMap Sg.vals) rfl (RB.out.below B1.out) (flat_one m) q3 q4 B1.out.size ?_
             intro v2 w2 hown2 hg2 hat2
             have B2 := Lib.hid (below_app B1.out HO1.out hg2)
             rw [List.nil_append, ← List.flatMap_append] at hown2
             obtain ⟨A2, c2, hv2, hc1, hc2, hS2⟩ := segs_of_own hown2 (by rw [List.length_append]; omega)
             rw [HN.out] at hv2 hc1
             subst hv2
             have HS2 := Lib.hid hS2
             clear hown2 hg2 hat2 hS2)
          | (go_at_call 7; (with_reducible refine (OC.out _ _ hc1 hc2 _ HS2.out).mono ?_); rintro e w5 ⟨⟨v, rfl, hL⟩, hb⟩; have B5 := Lib.hid (joinB B2.out hb); have HL := Lib.hid hL; clear hb hL))
        go_meet
        exact ⟨rfl, HL, B5⟩
      case rest =>
        obtain ⟨rfl, L3, HX⟩ := hcut
        have L1 := Lib.hid (L1'.out.below HX.out)
        have L2' := Lib.hid (L2.out.below HX.out)
        have HD := Lib.hid (joinB HD'.out HX.out)
        clear L1' HD' HX L2
        by_cases hEA : EA = 0
        · subst hEA
          by_cases hEB : EB = 0
          · subst hEB
            have hj := join_ok (by omega) (by omega) HA.out HB.out
            rw [HC.out] at hj
            cases hj
            have SA := len_small (by omega) HOK.out HA.out
            have SB := len_small (by omega) HOK'.out HB.out
            have SAB : (LA ++ LB).length ≤ 1000000 ∧ ∀ d ∈ LA ++ LB, d.length ≤ 1000000 := len_small (by rw [HN.out, HNl.out]; omega) (fun s h => (List.mem_append.1 h).elim (HOK.out s) (HOK'.out s)) HC.out
            have HSAB := Lib.hid SAB
            have n1 := SA.1
            have n2 := SB.1
            clear SA SB SAB
            obtain ⟨A1, c1, us, rfl, hR1, h1, hd1⟩ := L1.out.row
            obtain ⟨A2, c2, vs, rfl, hR2, h2, hd2⟩ := L2'.out.row
            have R1 := Lib.hid hR1
            have R2 := Lib.hid hR2
            have D1 := Lib.hid hd1
            have D2 := Lib.hid hd2
            have O1 := Lib.hid h1
            have O2 := Lib.hid h2
            clear hR1 hR2 hd1 hd2 h1 h2 L1 L2'
            obtain ⟨i1, hi1, hy0, hy1, hy2⟩ := info_parts Try.info34
            go_upto_region 8 with fail
            go_cut [11] (fun s11 wx => Hid (LinesRd wx s11 (LA ++ LB)) ∧ Hid (Below wc.heap.size wc wx))
            case first =>
              have q1 : 0 + LA.length ≤ maxLen := by unfold maxLen; omega
              have q2 : (0 + LA.length) * 24 ≤ 140737488355328 := by omega
              have q3 : 0 + LA.length + LB.length ≤ maxLen := by unfold maxLen; omega
              have q4 : (0 + LA.length + LB.length) * 24 ≤ 140737488355328 := by omega
              go_wp2_with (first
                | (at_builtin
                   refine wpList_append_any _ rfl _ _ 30 rfl wc.heap.size 34 i1 _ 1 24 Try.underlying30 hi1 hy0 hy1 hy2 rfl (by omega) (.slice none 0 0) 0 [] rfl (own_nil _ _ _ _) wc.heap.size A1 LA.length c1 us rfl R1.out O1.out q1 q2 (Nat.le_refl _) ?_
                   intro v1 w1 hown1 hg1 hat1
                   have B1 := Lib.hid (below_app (Below.refl _ _) (own_nil wc wc.heap.size 0 1) hg1)
                   have HO1 := Lib.hid hown1
                   clear hown1 hg1 hat1)
                | (at_builtin
                   refine wpList_append_any _ rfl _ _ 30 rfl wc.heap.size 34 i1 _ 1 24 Try.underlying30 hi1 hy0 hy1 hy2 rfl (by omega) v1 (0 + LA.length) ([] ++ us) rfl HO1.out wc.heap.size A2 LB.length c2 vs rfl (R2.out.below B1.out) O2.out q3 q4 B1.out.size ?_
                   intro v2 w2 hown2 hg2 hat2
                   have B2 := Lib.hid (below_app B1.out HO1.out hg2)
                   have HO2 := Lib.hid hown2
                   clear hown2 hg2 hat2))
              go_meet
              refine ⟨Lib.hid (lines_of_own HO2.out (by rw [List.length_append]; omega) ?_), B2⟩
              refine rows_append (by have := R1.out.1; simpa using this) (fun j d hj => ?_) (fun j d hj => ?_)
              · obtain ⟨u, hu, ho⟩ := D1.out j d hj
                exact ⟨u, by simpa using hu, ho.below B2.out⟩
              · obtain ⟨u, hu, ho⟩ := D2.out j d hj
                exact ⟨u, hu, ho.below B2.out⟩
            case rest =>
              obtain ⟨L4, HX⟩ := hcut
              have L3' := Lib.hid (L3.out.below HX.out)
              have HD' := Lib.hid (joinB HD.out HX.out)
              clear L3 HD HX R1 R2 D1 D2 O1 O2
              have LIV : ∀ W, Calls Try.prog 6 #[] W fun e w' => e = .returned (.bool true) ∧ Below W.heap.size W w' := lives_any
              have SAME1 := same_lines (LA ++ LB) HSAB.out _ _ wc L3'.out L4.out
              have HLIV := Lib.hid LIV
              have HSAME := Lib.hid SAME1
              clear LIV SAME1
              by_cases hl0 : l.length = 0
              · have f1 : ((l.length : Int) == 0) = true := by rw [hl0]; rfl
                clear hl0
                go_wp2_with (first
                  | (go_at_call 8; (with_reducible refine HSAME.out.mono ?_); rintro e w1 ⟨rfl, hb⟩; have B1 := Lib.hid hb; clear hb)
                  | (go_at_call 6; (with_reducible refine (HLIV.out _).mono ?_); rintro e w2 ⟨rfl, hb⟩; have B2 := Lib.hid (joinB B1.out hb); clear hb))
                go_ret
                exact ⟨rfl, joinB HD'.out B2.out⟩
              · obtain ⟨q, hq⟩ : ∃ q, l.length = q + 1 := ⟨l.length - 1, by omega⟩
                obtain ⟨s, hsk⟩ : ∃ d, l[q]? = some d := ⟨_, List.getElem?_eq_getElem (by omega)⟩
                obtain ⟨ba, off, rfl, hba, hcell⟩ := kind_at HS.out hsk
                have f1 : ((q : Int) + 1 == 0) = false := by simp; omega
                have g2 : IntKind.i64.wrap (((q + 1 : Nat) : Int) - 1) = (q : Int) := by rw [IntWalk.i64_in _ (by omega)]; omega
                have c0 := hcell q s hsk
                obtain ⟨K, hK⟩ : ∃ K : Int, s.k = K := ⟨_, rfl⟩
                rw [hK] at c0
                have C0 := Lib.hid c0
                have HK := Lib.hid hK
                have HSK := Lib.hid hsk
                have HQ := Lib.hid hq
                have hq1 : q + 1 ≤ 100 := by omega
                rw [hq]
                clear c0 hK hsk hcell hq
                by_cases h3 : K = 3
                · subst h3
                  go_wp2_with (first
                    | (go_at_call 8; (with_reducible refine HSAME.out.mono ?_); rintro e w1 ⟨rfl, hb⟩; have B1 := Lib.hid hb; have c0 : w1.cell? ⟨ba, off + q * 7, none⟩ = some (.int .u8 3) := ((joinB HD'.out hb).cell (p := ⟨ba, off + q * 7, none⟩) hba).trans C0.out; clear hb)
                    | (go_at_call 6; (with_reducible refine (HLIV.out _).mono ?_); rintro e w2 ⟨rfl, hb⟩; have B2 := Lib.hid (joinB B1.out hb); clear hb))
                  go_ret
                  exact ⟨rfl, joinB HD'.out B2.out⟩
                · have g3 : (K == 3) = false := by simp; omega
                  have hl' : l = l.take q ++ [s] := by
                    have h1 : l.take (q + 1) = l.take q ++ [s] := by rw [List.take_add_one, HSK.out]; rfl
                    rw [← h1, List.take_of_length_le (by rw [HQ.out]; omega)]
                  have hj := join_shut (l := l.take q) (m := m) (s := s) (u := ⟨3, 1, 2, 0, 0, 0, 0⟩) (by rw [← hl', HQ.out]; exact hq1) (by omega) (by rw [HK.out]; exact h3) rfl (by rw [← hl']; exact HA.out) HB.out
                  rw [← hl'] at hj
                  have okD : ∀ u ∈ l ++ [(⟨3, 1, 2, 0, 0, 0, 0⟩ : Sg)] ++ m, u.ok := fun u h => by
                    rcases List.mem_append.1 h with h | h
                    · rcases List.mem_append.1 h with h | h
                      · exact HOK.out u h
                      · rw [List.mem_singleton.1 h]; exact okSg _ _ _ _ _ _ _ (by omega)
                    · exact HOK'.out u h
                  have hN2 : (l ++ [(⟨3, 1, 2, 0, 0, 0, 0⟩ : Sg)] ++ m).length = 0 + (q + 1) + 1 + m.length := by
                    rw [List.length_append, List.length_append, HQ.out]; simp
                  obtain ⟨N2, hN3⟩ : ∃ N2, 0 + (q + 1) + 1 + m.length = N2 := ⟨_, rfl⟩
                  have hOD := of_rd (l ++ [(⟨3, 1, 2, 0, 0, 0, 0⟩ : Sg)] ++ m) N2 (by rw [hN2, hN3]) (by omega) okD (LA ++ LB) 0 hj
                  have OD := Lib.hid hOD
                  have HN2 := Lib.hid hN2
                  have HN3 := Lib.hid hN3
                  have RA : Reads w w.heap.size 7 (some ⟨ba, off, none⟩) (q + 1) (l.flatMap Sg.vals) := by rw [← HQ.out]; exact HS.out.reads
                  have HRA := Lib.hid RA
                  clear hl' hj okD hOD hN2 hN3 RA
                  go_upto_region 13 with (go_at_call 8; (with_reducible refine HSAME.out.mono ?_); rintro e w1 ⟨rfl, hb⟩; have B1 := Lib.hid (joinB HD'.out hb); have L5 := Lib.hid (L4.out.below hb); have c0 : w1.cell? ⟨ba, off + q * 7, none⟩ = some (.int .u8 K) := ((joinB HD'.out hb).cell (p := ⟨ba, off + q * 7, none⟩) hba).trans C0.out; clear hb)
                  clear c0
                  go_cut [12, 13] (fun s12 s13 wx => s13 = .int .i64 0 ∧ Hid (LinesRd wx s12 (LA ++ LB)) ∧ Hid (Below w1.heap.size w1 wx))
                  case first =>
                    have RA := Lib.hid ((HRA.out.below B1.out).more B1.out.size)
                    have RB := Lib.hid (HS'.out.later B1.out).reads
                    have q1 : 0 + (q + 1) ≤ maxLen := qmax _ (by omega)
                    have q2 : (0 + (q + 1)) * 28 ≤ 140737488355328 := q28 _ (by omega)
                    have q3 : 0 + (q + 1) + 1 ≤ maxLen := qmax _ (by omega)
                    have q4 : (0 + (q + 1) + 1) * 28 ≤ 140737488355328 := q28 _ (by omega)
                    have q5 : 0 + (q + 1) + 1 + m.length ≤ maxLen := qmax _ (by omega)
                    have q6 : (0 + (q + 1) + 1 + m.length) * 28 ≤ 140737488355328 := q28 _ (by omega)
                    have tok1 : True := trivial
                    have tok2 : True := trivial
                    go_wp2_with (first
                      | (at_builtin
                         have _t := tok1
                         refine wpList_append_any _ rfl _ _ 22 rfl w1.heap.size 29 i0 _ 7 28 Try.underlying22 hi0 hz0 hz1 hz2 rfl (by omega) (.slice none 0 0) 0 [] rfl (own_nil _ _ _ _) w1.heap.size (some ⟨ba, off, none⟩) (q + 1) capa (l.flatMap Sg.vals) rfl RA.out (flat_one l) q1 q2 (Nat.le_refl _) ?_
                         intro v2 w2 hown1 hg1 hat1
                         have B2 := Lib.hid (below_app (Below.refl _ _) (own_nil w1 w1.heap.size 0 1) hg1)
                         have HO1 := Lib.hid hown1
                         clear hown1 hg1 hat1 tok1 _t)
                      | (at_builtin
                         have _t := tok2
                         have _u := v2
                         refine wpList_append_any _ rfl _ _ 22 rfl w1.heap.size 29 i0 _ 7 28 Try.underlying22 hi0 hz0 hz1 hz2 rfl (by omega) v2 (0 + (q + 1)) ([] ++ l.flatMap Sg.vals) rfl (HO1.out.alloc _) (w2.heap.size + 1) (some ⟨w2.heap.size, 0, none⟩) 1 1 (Sg.vals ⟨3, 1, 2, 0, 0, 0, 0⟩) rfl (Reads.new rfl rfl _ rfl) (fun u hu => flat_one [⟨3, 1, 2, 0, 0, 0, 0⟩] u (by simpa using hu)) q3 q4 (by have := B2.out.size; simp; omega) ?_
                         intro v3 w3 hown2 hg2 hat2
                         have B3 := Lib.hid (below_app (balloc B2.out _) (HO1.out.alloc _) hg2)
                         have HO2 := Lib.hid hown2
                         clear hown2 hg2 hat2 tok2 _t _u)
                      | (at_builtin
                         refine wpList_append_any _ rfl _ _ 22 rfl w1.heap.size 29 i0 _ 7 28 Try.underlying22 hi0 hz0 hz1 hz2 rfl (by omega) v3 (0 + (q + 1) + 1) ([] ++ l.flatMap Sg.vals ++ Sg.vals ⟨3, 1, 2, 0, 0, 0, 0⟩) rfl HO2.out w1.heap.size b m.length capb (m.flatMap Sg.vals) rfl (RB.out.below B3.out) (flat_one m) q5 q6 B3.out.size ?_
                         intro v4 w4 hown3 hg3 hat3
                         have B4 := Lib.hid (below_app B3.out HO2.out hg3)
                         have e : [] ++ l.flatMap Sg.vals ++ Sg.vals ⟨3, 1, 2, 0, 0, 0, 0⟩ ++ m.flatMap Sg.vals = (l ++ [(⟨3, 1, 2, 0, 0, 0, 0⟩ : Sg)] ++ m).flatMap Sg.vals := by simp
                         rw [e] at hown3
                         obtain ⟨A2, c2, hv2, hc1, hc2, hS2⟩ := segs_of_own hown3 HN2.out.symm
                         rw [HN2.out, HN3.out] at hv2 hc1
                         subst hv2
                         have HS2 := Lib.hid hS2
                         clear hown3 hg3 hat3 hS2 e)
                      | (go_at_call 7; (with_reducible refine (OD.out _ _ hc1 hc2 _ HS2.out).mono ?_); rintro e w5 ⟨⟨v, rfl, hL⟩, hb⟩; have B5 := Lib.hid (joinB B4.out hb); have HL := Lib.hid hL; clear hb hL))
                    go_meet
                    exact ⟨rfl, HL, B5⟩
                  case rest =>
                    obtain ⟨rfl, L6, HX⟩ := hcut
                    have L7 := Lib.hid (L5.out.below HX.out)
                    have HD2 := Lib.hid (joinB B1.out HX.out)
                    have hSM := same_lines (LA ++ LB) HSAB.out _ _ wc L6.out L7.out
                    have HSM := Lib.hid hSM
                    clear hSM
                    go_wp2_with (first
                      | (go_at_call 8; (with_reducible refine HSM.out.mono ?_); rintro e w2 ⟨rfl, hb⟩; have B2 := Lib.hid (joinB HD2.out hb); clear hb)
                      | (go_at_call 6; (with_reducible refine (HLIV.out _).mono ?_); rintro e w3 ⟨rfl, hb⟩; have B3 := Lib.hid (joinB B2.out hb); clear hb))
                    go_ret
                    exact ⟨rfl, B3.out⟩
          · have hm4 := pathsOf_bad (by omega) HB.out hEB
            obtain ⟨-, rfl, rfl⟩ := hm4
            go_wp2_with (go_at_call 6; (with_reducible refine (lives_any _).mono ?_); rintro e w1 ⟨rfl, hb⟩; have B1 := Lib.hid hb; clear hb)
            go_ret
            exact ⟨rfl, joinB HD.out B1.out⟩
        · have hj := join_bad (by omega) (by omega) HA.out hEA (m := m)
          obtain ⟨rfl, rfl, hj⟩ := hj
          rw [HC.out] at hj
          cases hj
          obtain ⟨A1, c1, rfl⟩ := L1.out.form
          go_wp2_with (go_at_call 6; (with_reducible refine (lives_any _).mono ?_); rintro e w1 ⟨rfl, hb⟩; have B1 := Lib.hid hb; clear hb)
          go_ret
          exact ⟨rfl, joinB HD.out B1.out⟩

end Go.Proofs.Ytbhpfhggcdccjaa
