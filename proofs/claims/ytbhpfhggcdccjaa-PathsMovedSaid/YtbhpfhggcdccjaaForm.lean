/- The walk of the statement PathsForm. -/
import Derived.Test.YtbhpfhggcdccjaaLivesB
import Derived.Test.YtbhpfhggcdccjaaFormPlain
namespace Go.Proofs.Ytbhpfhggcdccjaa
open Go.RowKit Go.Proofs.WPlain

theorem bool_ret (a b : Bool) (h : a = b) : Value.bool a = .bool b := by rw [h]

/-- A segment's kind, in its cell. -/
theorem kind_at {W : World} {n₀ : Nat} {a : Option Addr} {l : List Sg} (h : SegsAt W n₀ a l) {k : Nat} {s : Sg} (hs : l[k]? = some s) :
    ∃ b off : Nat, a = some ⟨b, off, none⟩ ∧ b < n₀ ∧ (∀ (j : Nat) (t : Sg), l[j]? = some t → W.cell? ⟨b, off + j * 7, none⟩ = some (.int .u8 t.k)) := by
  rcases h with rfl | ⟨b, off, ha, hb, hc⟩
  · simp at hs
  · exact ⟨b, off, ha, hb, fun j t ht => by have := hc j t ht 0 _ rfl; simpa using this⟩

set_option maxRecDepth 100000 in
set_option maxHeartbeats 4000000 in
theorem form_walk (a : Option Addr) (cap : Nat) (l : List Sg) (w : World) (hc : l.length ≤ cap) (hcm : cap ≤ 9223372036854775807) (hok : ∀ s ∈ l, s.ok) (hs : SegsAt w w.heap.size a l) :
    Calls Try.prog 5 #[.slice a l.length cap] w fun e w' => e = .returned (.bool true) ∧ Below w.heap.size w w' := by
  by_cases h400 : 400 < l.length
  · have e1 : ((l.length : Int) > 400) = True := by simp; omega
    go_enter Try.func5, Try.ntmps5
    go_wp2_with (go_at_call 6; (with_reducible refine (lives_any _).mono ?_); rintro e w1 ⟨rfl, hb⟩; have B1 := Lib.hid hb; clear hb)
    go_ret
    exact ⟨rfl, B1.out⟩
  · have e1 : ((l.length : Int) > 400) = False := by simp; omega
    have OF := ofPath_any a cap l w (by omega) hc hcm hok hs
    obtain ⟨L, E, hLE⟩ : ∃ L E, pathsOf l = (L, E) := ⟨_, _, rfl⟩
    rw [hLE] at OF
    simp only at OF
    have FO := form_of l
    by_cases h256 : 256 < l.length
    · have hE : L = [] ∧ E = 3 := by
        have : pathsOf l = ([], 3) := by simp [pathsOf, h256]
        rw [this] at hLE; cases hLE; exact ⟨rfl, rfl⟩
      obtain ⟨rfl, rfl⟩ := hE
      have e2 : ((l.length : Int) > 256) = True := by simp; omega
      clear hLE FO
      go_enter Try.func5, Try.ntmps5
      go_wp2_with (first
        | (go_at_call 6; (with_reducible refine (lives_any _).mono ?_); rintro e w1 ⟨rfl, hb⟩; have B2 := Lib.hid (joinB B1.out hb); clear hb)
        | (go_at_call 7; (with_reducible refine OF.mono ?_); rintro e w1 ⟨⟨v, rfl, hL⟩, hb⟩; have B1 := Lib.hid hb; obtain ⟨va, vc, rfl⟩ := hL.rd.form; clear hb hL))
      go_ret
      exact ⟨rfl, B2.out⟩
    · have e2 : ((l.length : Int) > 256) = False := by simp; omega
      have HF := Lib.hid (FO h256)
      have HLE := Lib.hid hLE
      have HOK := Lib.hid hok
      have HS := Lib.hid hs
      clear hLE FO hok hs
      go_enter Try.func5, Try.ntmps5
      go_wp2_with (first
        | (go_at_call 7; (with_reducible refine OF.mono ?_); rintro e w1 ⟨⟨v, rfl, hL⟩, hb⟩; have B1 := Lib.hid hb; obtain ⟨va, vc, rfl⟩ := hL.rd.form; clear hb hL))
      go_loopw [5, 6, 7] (fun o m i wr => ∃ k : Nat, k ≤ l.length ∧ i = .int .i64 k ∧ m = .int .i64 (form (l.take k)).n ∧ o = .bool (form (l.take k)).ok ∧ Hid (Below w.heap.size w wr)) (fun _ _ i _ => l.length - (intOf i).toNat)
      case atStart => exact ⟨0, by omega, rfl, rfl, rfl, B1⟩
      case round =>
        obtain ⟨k, hk, rfl, rfl, rfl, hB⟩ := hrel
        clear OF
        by_cases hlt : k < l.length
        · obtain ⟨s, hsk⟩ : ∃ d, l[k]? = some d := ⟨_, List.getElem?_eq_getElem hlt⟩
          have hsok := HOK.out s (List.mem_of_getElem? hsk)
          obtain ⟨b, off, rfl, hb, hcell⟩ := kind_at HS.out hsk
          have hT : Hid (form (l.take (k + 1)) = fstep (form (l.take k)) s) := by
            have h : form (l.take (k + 1)) = fstep (form (l.take k)) s := by rw [List.take_add_one, hsk]; exact form_snoc _ _
            exact h
          have c0 : wr.cell? ⟨b, off + k * 7, none⟩ = some (.int .u8 s.k) := (hB.out.cell (p := ⟨b, off + k * 7, none⟩) hb).trans (hcell k s hsk)
          obtain ⟨K, hKs⟩ : ∃ K : Int, s.k = K := ⟨_, rfl⟩
          rw [hKs] at c0
          have HKS := Lib.hid hKs
          have k0 : 0 ≤ K := by rw [← hKs]; exact hsok.1.1
          have k1 : K ≤ 255 := by rw [← hKs]; exact hsok.1.2
          have HCELL := Lib.hid hcell
          clear hsk hKs hsok hcell
          have hn : (form (l.take k)).n ≤ k := by have := form_n_le (l.take k); rw [List.length_take] at this; omega
          have hk9 : k ≤ 256 := by omega
          have hNZ : K ≠ 0 → s.k ≠ 0 := fun h => by rw [HKS.out]; exact h
          have HNZ := Lib.hid hNZ
          clear hNZ
          by_cases hbad : 3 < K
          · have f1 : (K > 3) = True := by simp; omega
            have f2 : (K == 0) = false := by simp; omega
            go_wp2
            go_roundw
            case rel => exact ⟨k + 1, hlt, by go_num, by rw [hT.out, fs_n (HNZ.out (by omega))]; first | done | rfl | go_num, by rw [hT.out, fs_bad (.inl (by rw [HKS.out]; exact hbad))], hB⟩
            case measure => simp [intOf]; omega
          · have f1 : (K > 3) = False := by simp; omega
            by_cases h0 : K = 0
            · subst h0
              go_wp2
              go_roundw
              case rel => exact ⟨k + 1, hlt, by go_num, by rw [hT.out, fs_n0 HKS.out]; first | done | rfl | go_num, by rw [hT.out, fs_ok (by rw [HKS.out]; omega) (.inl HKS.out)], hB⟩
              case measure => simp [intOf]; omega
            · have f2 : (K == 0) = false := by simp; omega
              have f3 : (!(K == 0)) = true := by simp; omega
              by_cases hk0 : k = 0
              · subst hk0
                simp only [Nat.zero_mul, Nat.add_zero] at c0
                go_wp2
                go_roundw
                case rel => exact ⟨0 + 1, by omega, by go_num, by rw [hT.out, fs_n (HNZ.out h0)]; first | done | rfl | go_num, by rw [hT.out, fs_bad (.inr ⟨HNZ.out h0, form_shut0 l⟩)], hB⟩
                case measure => simp [intOf]; omega
              · obtain ⟨q, rfl⟩ : ∃ q, k = q + 1 := ⟨k - 1, by omega⟩
                obtain ⟨u, huk⟩ : ∃ d, l[q]? = some d := ⟨_, List.getElem?_eq_getElem (by omega)⟩
                have c1 : wr.cell? ⟨b, off + q * 7, none⟩ = some (.int .u8 u.k) := (hB.out.cell (p := ⟨b, off + q * 7, none⟩) hb).trans (HCELL.out q u huk)
                have HSH := Lib.hid (form_shut1 l q u huk)
                obtain ⟨U, hU⟩ : ∃ U : Int, u.k = U := ⟨_, rfl⟩
                rw [hU] at c1
                have HU := Lib.hid hU
                clear hU huk
                have g1 : ((q : Int) + 1 == 0) = false := by simp; omega
                have g0 : (K != 0) = true := by simp; omega
                have g2 : IntKind.i64.wrap (((q + 1 : Nat) : Int) - 1) = (q : Int) := by rw [IntWalk.i64_in _ (by omega)]; omega
                by_cases h3 : U = 3
                · subst h3
                  go_wp2
                  go_roundw
                  case rel => exact ⟨q + 1 + 1, hlt, by go_num, by rw [hT.out, fs_n (HNZ.out h0)], by rw [hT.out, fs_bad (.inr ⟨HNZ.out h0, HSH.out.trans (by rw [HU.out]; rfl)⟩)], hB⟩
                  case measure => simp [intOf]; omega
                · have g3 : (U == 3) = false := by simp; omega
                  go_wp2
                  go_roundw
                  case rel => exact ⟨q + 1 + 1, hlt, by go_num, by rw [hT.out, fs_n (HNZ.out h0)], by rw [hT.out, fs_ok (by rw [HKS.out]; omega) (.inr (HSH.out.trans (by rw [HU.out]; simpa using h3)))], hB⟩
                  case measure => simp [intOf]; omega
        · have hkl : k = l.length := by omega
          subst hkl
          rw [List.take_length]
          clear HS HOK
          have hne : Hid (if (form l).ok = true then (pathsOf l).2 = 0 ∧ (pathsOf l).1.length = (form l).n else pathsOf l = ([], 4)) := HF
          cases hfo : (form l).ok with
          | true =>
            have HFO := Lib.hid hfo
            clear hfo
            have hE : E = 0 ∧ L.length = (form l).n := by
              have := HF.out
              rw [if_pos HFO.out, HLE.out] at this
              exact this
            obtain ⟨rfl, hLn⟩ := hE
            rw [hLn]
            clear hLn HF hne HLE
            go_wp2_with (go_at_call 6; (with_reducible refine (lives_any _).mono ?_); rintro e w1 ⟨rfl, hb⟩; have B2 := Lib.hid (joinB hB.out hb); clear hb)
            go_ret
            exact ⟨rfl, B2.out⟩
          | false =>
            have HFO := Lib.hid hfo
            clear hfo
            have hE : L = [] ∧ E = 4 := by
              have := HF.out
              rw [if_neg (by rw [HFO.out]; simp), HLE.out] at this
              cases this
              exact ⟨rfl, rfl⟩
            obtain ⟨rfl, rfl⟩ := hE
            clear HF hne HLE
            go_wp2_with (go_at_call 6; (with_reducible refine (lives_any _).mono ?_); rintro e w1 ⟨rfl, hb⟩; have B2 := Lib.hid (joinB hB.out hb); clear hb)
            go_ret
            exact ⟨rfl, B2.out⟩

end Go.Proofs.Ytbhpfhggcdccjaa
