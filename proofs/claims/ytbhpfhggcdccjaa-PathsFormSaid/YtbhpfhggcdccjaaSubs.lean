/- The iterator of the package paths: the sub-paths of a path, as a contract. -/
import Derived.Test.YtbhpfhggcdccjaaSubsPlain
import Derived.Test.YtbhpfhggcdccjaaRange
namespace Go.Proofs.Ytbhpfhggcdccjaa
open Go.RowKit Go.Proofs.WPlain

attribute [local go_sem] Oper.semAt_some

theorem StepOf.below {Bx : Nat} {A B : World} (h : Below A.heap.size A B) : StepOf Bx A B := ⟨h.os, h.tape, h.output, h.size, fun k hk _ => h.block k hk⟩
theorem StepOf.set (Bx : Nat) (A : World) (v : Value) : StepOf Bx A (A.setCell ⟨Bx, 0, none⟩ v) :=
  ⟨rfl, rfl, rfl, by simp, fun k _ hne => Below.heap_setCell _ _ _ _ (fun e => hne (by rw [e]))⟩

/-- A sub-path as it is handed to the loop: a piece of the path's own memory. -/
structure Sub where
  b : Nat
  off : Nat
  cap : Nat
  l : List Sg
def Sub.val (x : Sub) : Value := .slice (some ⟨x.b, x.off, none⟩) x.l.length x.cap
/-- It is what it says, in a world, below a mark. -/
def Sub.good (W : World) (n₀ : Nat) (x : Sub) : Prop := SegsAt W n₀ (some ⟨x.b, x.off, none⟩) x.l ∧ (∀ s ∈ x.l, s.ok) ∧ x.l ≠ [] ∧ x.l.length ≤ 1000000

/-- What a round of the loop keeps: all below the mark, and the iterator's own cell. -/
def RoundKeeps (n₀ Bx : Nat) (A B : World) : Prop := Below n₀ A B ∧ ∀ v, Boxed A Bx 22 v → Boxed B Bx 22 v
theorem RoundKeeps.trans {n₀ Bx : Nat} {A B C : World} (h : RoundKeeps n₀ Bx A B) (k : RoundKeeps n₀ Bx B C) : RoundKeeps n₀ Bx A C := ⟨h.1.trans k.1, fun v hv => k.2 v (h.2 v hv)⟩

set_option maxHeartbeats 1000000 in
theorem subs_in (n : Nat) (a : Option Addr) (len cap : Nat) (w : World) :
    CallsIn Fence.wide n Try.prog 10 #[.slice a len cap] w fun e w' => e = .returned (.func (.func 16) #[] #[.pointer (some ⟨w.heap.size, 0, none⟩)]) ∧ w' = w.alloc (.cells #[.slice a len cap] 22) := by
  refine callsIn_of_wp Try.func10 rfl trivial ?_ rfl
  simp only [Try.ntmps10, List.size_toArray, List.length_cons, List.length_nil, Nat.reduceAdd, Nat.reduceSub, Array.replicate_succ, Array.replicate_zero, List.push_toArray, List.append_toArray, List.nil_append, List.cons_append]
  gi_wp2
  go_ret
  exact ⟨rfl, rfl⟩

theorem seg_from (b off len cap k : Nat) (hk : k ≤ len) (hc : len ≤ cap) (_hcm : cap ≤ 9223372036854775807) (W : World) :
    (Instr.slice 22 (.slice (some ⟨b, off, none⟩) len cap) (some (.int .i64 k)) none none).run Try.prog W = .ok (.slice (some ⟨b, off + (if k = cap then 0 else k * 7), none⟩) (len - k) (cap - k)) W := by
  have h1 : (k : Int) ≤ len := by omega
  have h2 : (len : Int) ≤ cap := by omega
  by_cases e : k = cap
  · go_simp
    intro h; exfalso; omega
  · go_simp
    intro h; exfalso; omega

theorem seg_till (b off len cap k : Nat) (hk : k ≤ len) (hc : len ≤ cap) (_hcm : cap ≤ 9223372036854775807) (W : World) :
    (Instr.slice 22 (.slice (some ⟨b, off, none⟩) len cap) none (some (.int .i64 k)) none).run Try.prog W = .ok (.slice (some ⟨b, off, none⟩) k cap) W := by
  have h1 : (k : Int) ≤ len := by omega
  have h2 : (len : Int) ≤ cap := by omega
  go_simp
  intro h; exfalso; omega

/-- A slice's rest reads as the rest. -/
theorem SegsAt.drop {W : World} {n₀ b off : Nat} {l : List Sg} (h : SegsAt W n₀ (some ⟨b, off, none⟩) l) (k cap : Nat) (hc : l.length ≤ cap) : SegsAt W n₀ (some ⟨b, off + (if k = cap then 0 else k * 7), none⟩) (l.drop k) := by
  by_cases e : l.length ≤ k
  · exact .inl (List.drop_eq_nil_of_le e)
  · rcases h with h | ⟨b', off', ha, hb, hcs⟩
    · subst h; simp at e
    · cases ha
      rw [if_neg (by omega)]
      refine .inr ⟨b, off + k * 7, rfl, hb, fun i s hi j v hv => ?_⟩
      rw [List.getElem?_drop] at hi
      have := hcs (k + i) s hi j v hv
      rwa [show off + (k + i) * 7 + j = off + k * 7 + i * 7 + j by rw [Nat.add_mul]; omega] at this

theorem SegsAt.mono {W : World} {n₀ n₁ : Nat} {a : Option Addr} {l : List Sg} (h : SegsAt W n₀ a l) (hn : n₀ ≤ n₁) : SegsAt W n₁ a l := by
  rcases h with h | ⟨b, off, ha, hb, hcs⟩
  · exact .inl h
  · exact .inr ⟨b, off, ha, by omega, hcs⟩

theorem SegsAt.take {W : World} {n₀ : Nat} {a : Option Addr} {l : List Sg} (h : SegsAt W n₀ a l) (k : Nat) : SegsAt W n₀ a (l.take k) := by
  rcases h with h | ⟨b, off, ha, hb, hcs⟩
  · subst h; exact .inl (by simp)
  · refine .inr ⟨b, off, ha, hb, fun i s hi => hcs i s ?_⟩
    rw [List.getElem?_take] at hi
    split at hi
    · exact hi
    · cases hi

/-- How many are left, read off the iterator's cell. -/
def leftAt (W : World) (B : Nat) : Nat := match W.cell? ⟨B, 0, none⟩ with | some (.slice _ n _) => n | _ => 0
theorem leftAt_eq {W : World} {B : Nat} {a : Option Addr} {n c : Nat} (h : W.cell? ⟨B, 0, none⟩ = some (.slice a n c)) : leftAt W B = n := by simp [leftAt, h]

set_option maxRecDepth 100000 in
set_option maxHeartbeats 4000000 in
theorem subs1_in (n : Nat) (hn : 1 ≤ n) (l Bx n₀ : Nat) (w₀ : World) (a0 : Option Addr) (cap0 : Nat) (L : List Sg) (hL : L.length ≤ 1000000) (hok : ∀ s ∈ L, s.ok) (hseg : SegsAt w₀ n₀ a0 L) (hc0 : L.length ≤ cap0) (hcm : cap0 ≤ 9223372036854775807)
    (J Jx : List { x : Sub // x.good w₀ n₀ } → World → Prop) (hJ : ∀ s A B, J s A → StepOf Bx A B → J s B)
    (hY : ∀ pre x W, J pre W → pre.length < L.length → YieldAt Fence.wide (n - 1) Try.prog l #[x.1.val] W fun e W' =>
      (e = .returned (.bool true) ∧ J (pre ++ [x]) W' ∧ RoundKeeps n₀ Bx W W') ∨ (e = .returned (.bool false) ∧ Jx (pre ++ [x]) W'))
    (W : World) (_hBn : Bx < W.heap.size) (hn₀ : n₀ ≤ Bx) (hB : Below n₀ w₀ W) (hbox : Boxed W Bx 22 (.slice a0 L.length cap0)) (h0 : J [] W) :
    CallsIn Fence.wide n Try.prog 16 #[.func (.yield l) #[] #[], .pointer (some ⟨Bx, 0, none⟩)] W fun e W' => (∃ v, e = .returned v) ∧
      ((∃ xs, xs.map (fun x => x.1.l) = subsL L ∧ J xs W') ∨ (∃ pre, pre.map (fun x => x.1.l) <+: subsL L ∧ Jx pre W')) := by
  refine callsIn_of_wp Try.func16 rfl trivial ?_ rfl
  simp only [Try.ntmps16, List.size_toArray, List.length_cons, List.length_nil, Nat.reduceAdd, Nat.reduceSub, Array.replicate_succ, Array.replicate_zero, List.push_toArray, List.append_toArray, List.nil_append, List.cons_append]
  gi_wp2
  gi_loopw [3] (fun _ wr => ∃ (pre : List { x : Sub // x.good w₀ n₀ }) (a : Option Addr) (cap : Nat) (rest : List Sg), Boxed wr Bx 22 (.slice a rest.length cap) ∧ SegsAt w₀ n₀ a rest ∧ rest.length ≤ cap ∧ cap ≤ cap0 ∧ Hid (subsL L = pre.map (fun x => x.1.l) ++ subsL rest) ∧
      Hid (∀ s ∈ rest, s.ok) ∧ rest.length + pre.length ≤ L.length ∧ Hid (J pre wr) ∧ Hid (Below n₀ w₀ wr))
    (fun _ wr => leftAt wr Bx)
  case atStart => exact ⟨[], a0, cap0, L, hbox, hseg, hc0, Nat.le_refl _, rfl, hok, by simp, h0, hB⟩
  case round =>
    obtain ⟨pre, a, cap, rest, hbx, hsg, hrc, hcc, hsub, hoks, hlen, hJr, hBr⟩ := hrel
    have hbc := hbx.cell
    cases rest with
    | nil =>
      gi_wp2
      go_end0
      exact ⟨⟨_, rfl⟩, .inl ⟨pre, by have := hsub.out; rw [subsL_nil, List.append_nil] at this; exact this.symm, hJr.out⟩⟩
    | cons s r =>
      obtain ⟨b, off, rfl, hbl, hcs⟩ : ∃ b off : Nat, a = some ⟨b, off, none⟩ ∧ b < n₀ ∧ ∀ (i : Nat) (t : Sg), (s :: r)[i]? = some t → ∀ (j : Nat) (v : Value), t.vals[j]? = some v → w₀.cell? ⟨b, off + i * 7 + j, none⟩ = some v := by
        rcases hsg with h | ⟨b, off, ha, hbl, hc⟩
        · cases h
        · exact ⟨b, off, ha, hbl, hc⟩
      have hsl := hsg
      obtain ⟨m, hm⟩ : ∃ m : Nat, (s :: r).length = m := ⟨_, rfl⟩
      have hrm : r.length + 1 = m := hm
      rw [hm] at hbx hbc hrc hlen
      obtain ⟨o1, ho1⟩ : ∃ o : Nat, off + (if 1 = cap then 0 else 1 * 7) = o := ⟨_, rfl⟩
      have hs1 : SegsAt w₀ n₀ (some ⟨b, o1, none⟩) r := by
        have := hsg.drop 1 cap (by rw [hm]; exact hrc)
        rw [ho1] at this; exact this
      have sl1 : ∀ W, (Instr.slice 22 (.slice (some ⟨b, off, none⟩) m cap) (some (.int .i64 1)) none none).run Try.prog W = .ok (.slice (some ⟨b, o1, none⟩) r.length (cap - 1)) W := fun W => by
        have := seg_from b off m cap 1 (by omega) hrc (by omega) W
        rw [ho1, show m - 1 = r.length by omega] at this
        exact this
      obtain ⟨c, hc⟩ : ∃ c : Nat, cutN (s :: r) = c := ⟨_, rfl⟩
      have hcb := cutN_b s r
      rw [hc, hm] at hcb
      obtain ⟨hc1, hc2⟩ := hcb
      have sl2 : ∀ W, (Instr.slice 22 (.slice (some ⟨b, off, none⟩) m cap) none (some (.int .i64 c)) none).run Try.prog W = .ok (.slice (some ⟨b, off, none⟩) c cap) W := fun W => seg_till b off m cap c hc2 hrc (by omega) W
      obtain ⟨o2, ho2⟩ : ∃ o : Nat, off + (if c = cap then 0 else c * 7) = o := ⟨_, rfl⟩
      have sl3 : ∀ W, (Instr.slice 22 (.slice (some ⟨b, off, none⟩) m cap) (some (.int .i64 c)) none none).run Try.prog W = .ok (.slice (some ⟨b, o2, none⟩) (m - c) (cap - c)) W := fun W => by
        have := seg_from b off m cap c hc2 hrc (by omega) W
        rw [ho2] at this; exact this
      have hs2 : SegsAt w₀ n₀ (some ⟨b, o2, none⟩) ((s :: r).drop c) := by
        have := hsg.drop c cap (by rw [hm]; exact hrc)
        rw [ho2] at this; exact this
      have hxl : ((s :: r).take c).length = c := by rw [List.length_take, hm]; omega
      have hgood : Sub.good w₀ n₀ ⟨b, off, cap, (s :: r).take c⟩ := by
        refine ⟨hsg.take c, fun u hu => hoks.out u (List.mem_of_mem_take hu), fun h => ?_, ?_⟩
        · have h' : (s :: r).take c = [] := h
          rw [h'] at hxl; simp at hxl; omega
        · show ((s :: r).take c).length ≤ _
          omega
      obtain ⟨x, hx⟩ : ∃ x : { x : Sub // x.good w₀ n₀ }, x.1 = ⟨b, off, cap, (s :: r).take c⟩ := ⟨⟨_, hgood⟩, rfl⟩
      have hxv : x.1.val = .slice (some ⟨b, off, none⟩) c cap := by rw [hx]; show Value.slice _ ((s :: r).take c).length _ = _; rw [hxl]
      have HSUB : Hid (subsL L = (pre ++ [x]).map (fun x => x.1.l) ++ subsL (dropShut ((s :: r).drop c))) := by
        have h : subsL L = (pre ++ [x]).map (fun x => x.1.l) ++ subsL (dropShut ((s :: r).drop c)) := by
          rw [hsub.out, subsL_cons, hc, List.map_append, List.append_assoc]
          simp [hx]
        exact h
      have hr1 : r.length ≤ 1000000 := by omega
      have HS1 := Lib.hid hs1
      have HS2 := Lib.hid hs2
      have HSG := Lib.hid hsl
      have HXL := Lib.hid hxl
      have HXV := Lib.hid hxv
      clear hs1 hs2 hsl hsg hxl hseg hbox h0 ho1 ho2 hcs hxv hx hgood
      cases hF : decide (firstAt sepB r < 0) with
      | true =>
        have hF' : firstAt sepB r < 0 := by simpa using hF
        have hFm : firstAt sepB r = -1 := by have := (firstAt_lo sepB r).1; omega
        have hcm' : m = c := by
          rw [← hc]; show m = (if firstAt sepB r < 0 then r.length + 1 else _)
          rw [if_pos hF']; exact hrm.symm
        subst hcm'
        have HM := Lib.hid hm
        clear hF hF' hc hm hrm
        have IX := fun W h => indexSep_any (some ⟨b, o1, none⟩) (cap - 1) r W hr1 h
        rw [hFm] at IX
        clear hFm
        have hbw : Bx < wr.heap.size := hbx.lt
        have hsw : SegsAt wr wr.heap.size (some ⟨b, o1, none⟩) r := (HS1.out.below hBr.out).mono (by omega)
        have IXw := IX wr hsw
        clear IX hsw
        gi_wp2_with (refine ⟨trivial, ?_⟩; gi_at_call 17; refine (callsIn_wide.2 IXw).mono ?_; rintro e w1 ⟨rfl, hb⟩; have HJ1 := Lib.hid (hJ _ _ _ hJr.out (StepOf.below hb)); have hbx1 : Boxed w1 Bx 22 (.slice (some ⟨b, off, none⟩) m cap) := (hb.block Bx hbw).trans hbx; have HB1 := Lib.hid (hBr.out.trans (hb.mono (show n₀ ≤ wr.heap.size by omega))); obtain ⟨fn, tmps, asg, bod, hy, hR⟩ := hY pre x w1 HJ1.out (by omega); rw [HXV.out] at hy; have hbc1 := hbx1.cell; clear hb)
        gi_wp2
        refine hR.mono ?_
        rintro e W3 (⟨rfl, hJ3, hk⟩ | ⟨rfl, hx3⟩)
        · have hbx3 := hk.2 _ hbx1
          have hbc3 := hbx3.cell
          have hbf3 := hbx3.frozen
          have HB3 := Lib.hid (HB1.out.trans hk.1)
          have HJ3 := Lib.hid hJ3
          obtain ⟨R, hR'⟩ : ∃ R, (s :: r).drop m = R := ⟨_, rfl⟩
          have hRl : R.length = m - m := by rw [← hR', List.length_drop, HM.out]
          have hRo : Hid (∀ u ∈ R, u.ok) := fun u hu => hoks.out u (List.mem_of_mem_drop (hR' ▸ hu))
          rw [hR'] at HS2 HSUB
          clear hk hJ3 hR HJ1 hbx1 hbc1 HB1 hy hR' 
          cases R with
          | nil =>
            have hm2 : m - m = 0 := hRl.symm
            clear hRl
            gi_wp2
            go_roundw
            case rel => exact ⟨pre ++ [x], some ⟨b, o2, none⟩, cap - m, [], Boxed.set _ hbx3, .inl rfl, Nat.zero_le _, by omega, HSUB.out, hRo, by simp; omega, hJ _ _ _ HJ3.out (StepOf.set Bx _ _), HB3.out.setCell hn₀ _⟩
            case measure => rw [leftAt_eq (Boxed.set _ hbx3).cell, leftAt_eq hbc]; omega
          | cons t R => exact absurd hRl (by simp)
        · gi_wp2
          refine bodyPost_ret (results_none rfl _ _ _) rfl ?_
          exact ⟨⟨_, rfl⟩, .inr ⟨pre ++ [x], ⟨_, HSUB.out.symm⟩, hx3⟩⟩
      | false =>
        have hF' : ¬ firstAt sepB r < 0 := by simpa using hF
        have hFm : firstAt sepB r = (c : Int) - 1 := by
          have h : c = (firstAt sepB r).toNat + 1 := by
            rw [← hc]; show (if firstAt sepB r < 0 then r.length + 1 else _) = _
            rw [if_neg hF']
          omega
        have hc0 : ((c : Int) == 0) = false := by simp; omega
        have HM := Lib.hid hm
        clear hF hF' hc hm hrm
        have IX := fun W h => indexSep_any (some ⟨b, o1, none⟩) (cap - 1) r W hr1 h
        rw [hFm] at IX
        clear hFm
        have hbw : Bx < wr.heap.size := hbx.lt
        have hsw : SegsAt wr wr.heap.size (some ⟨b, o1, none⟩) r := (HS1.out.below hBr.out).mono (by omega)
        have IXw := IX wr hsw
        clear IX hsw
        gi_wp2_with (refine ⟨trivial, ?_⟩; gi_at_call 17; refine (callsIn_wide.2 IXw).mono ?_; rintro e w1 ⟨rfl, hb⟩; have HJ1 := Lib.hid (hJ _ _ _ hJr.out (StepOf.below hb)); have hbx1 : Boxed w1 Bx 22 (.slice (some ⟨b, off, none⟩) m cap) := (hb.block Bx hbw).trans hbx; have HB1 := Lib.hid (hBr.out.trans (hb.mono (show n₀ ≤ wr.heap.size by omega))); obtain ⟨fn, tmps, asg, bod, hy, hR⟩ := hY pre x w1 HJ1.out (by omega); rw [HXV.out] at hy; have hbc1 := hbx1.cell; clear hb)
        gi_wp2
        refine hR.mono ?_
        rintro e W3 (⟨rfl, hJ3, hk⟩ | ⟨rfl, hx3⟩)
        · have hbx3 := hk.2 _ hbx1
          have hbc3 := hbx3.cell
          have hbf3 := hbx3.frozen
          have HB3 := Lib.hid (HB1.out.trans hk.1)
          have HJ3 := Lib.hid hJ3
          obtain ⟨R, hR'⟩ : ∃ R, (s :: r).drop c = R := ⟨_, rfl⟩
          have hRl : R.length = m - c := by rw [← hR', List.length_drop, HM.out]
          have hRo : Hid (∀ u ∈ R, u.ok) := fun u hu => hoks.out u (List.mem_of_mem_drop (hR' ▸ hu))
          rw [hR'] at HS2 HSUB
          clear hk hJ3 hR HJ1 hbx1 hbc1 HB1 hy hR' 
          cases R with
          | nil =>
            have hm2 : m - c = 0 := hRl.symm
            clear hRl
            gi_wp2
            go_roundw
            case rel => exact ⟨pre ++ [x], some ⟨b, o2, none⟩, cap - c, [], Boxed.set _ hbx3, .inl rfl, Nat.zero_le _, by omega, HSUB.out, hRo, by simp; omega, hJ _ _ _ HJ3.out (StepOf.set Bx _ _), HB3.out.setCell hn₀ _⟩
            case measure => rw [leftAt_eq (Boxed.set _ hbx3).cell, leftAt_eq hbc]; omega
          | cons t R =>
            obtain ⟨q, hq⟩ : ∃ q : Nat, m - c = q := ⟨_, rfl⟩
            have hRq : R.length + 1 = q := by rw [← hq]; exact hRl
            have hq0 : 0 < q := by omega
            have hqc : q ≤ cap - c := by omega
            have hkc : W3.cell? ⟨b, o2, none⟩ = some (.int .u8 t.k) := by
              rcases HS2.out.below HB3.out with h | ⟨b', off', ha, _, hcs'⟩
              · cases h
              · cases ha; exact hcs' 0 t rfl 0 _ rfl
            have hbne : b ≠ Bx := by omega
            by_cases h3 : t.k = 3
            · obtain ⟨o3, ho3⟩ : ∃ o : Nat, o2 + (if 1 = cap - c then 0 else 1 * 7) = o := ⟨_, rfl⟩
              have hs3 : Hid (SegsAt w₀ n₀ (some ⟨b, o3, none⟩) R) := by
                have := HS2.out.drop 1 (cap - c) (by simp only [List.length_cons]; omega)
                rw [ho3] at this; exact this
              have sl4 : ∀ W, (Instr.slice 22 (.slice (some ⟨b, o2, none⟩) q (cap - c)) (some (.int .i64 1)) none none).run Try.prog W = .ok (.slice (some ⟨b, o3, none⟩) R.length (cap - c - 1)) W := fun W => by
                have := seg_from b o2 q (cap - c) 1 (by omega) hqc (by omega) W
                rw [ho3, show q - 1 = R.length by omega] at this
                exact this
              have HSUB' : Hid (subsL L = (pre ++ [x]).map (fun x => x.1.l) ++ subsL R) := by
                have h : subsL L = (pre ++ [x]).map (fun x => x.1.l) ++ subsL R := by
                  rw [HSUB.out, show dropShut (t :: R) = R by show (if t.k = 3 then R else t :: R) = R; rw [if_pos h3]]
                exact h
              have hRo' : Hid (∀ u ∈ R, u.ok) := fun u hu => hRo.out u (by simp [hu])
              rw [h3] at hkc
              clear ho3 HSUB hRo h3 hRl
              gi_wp2
              go_roundw
              case rel => exact ⟨pre ++ [x], some ⟨b, o3, none⟩, cap - c - 1, R, Boxed.set _ (Boxed.set _ hbx3), hs3.out, by omega, by omega, HSUB'.out, hRo'.out, by simp; omega, hJ _ _ _ (hJ _ _ _ HJ3.out (StepOf.set Bx _ _)) (StepOf.set Bx _ _), (HB3.out.setCell hn₀ _).setCell hn₀ _⟩
              case measure => rw [leftAt_eq (Boxed.set _ (Boxed.set _ hbx3)).cell, leftAt_eq hbc]; omega
            · have h3b : (t.k == 3) = false := by simp [h3]
              have HSUB' : Hid (subsL L = (pre ++ [x]).map (fun x => x.1.l) ++ subsL (t :: R)) := by
                have h : subsL L = (pre ++ [x]).map (fun x => x.1.l) ++ subsL (t :: R) := by
                  rw [HSUB.out, show dropShut (t :: R) = t :: R by show (if t.k = 3 then R else t :: R) = t :: R; rw [if_neg h3]]
                exact h
              have hRl2 : (t :: R).length = q := hRq
              have HRL := Lib.hid hRl2
              clear HSUB h3 hRl hRl2
              gi_wp2
              go_roundw
              case rel => exact ⟨pre ++ [x], some ⟨b, o2, none⟩, cap - c, t :: R, by rw [HRL.out]; exact Boxed.set _ hbx3, HS2.out, by rw [HRL.out]; exact hqc, by omega, HSUB'.out, hRo, by rw [HRL.out]; simp; omega, hJ _ _ _ HJ3.out (StepOf.set Bx _ _), HB3.out.setCell hn₀ _⟩
              case measure => rw [leftAt_eq (Boxed.set _ hbx3).cell, leftAt_eq hbc]; omega
        · gi_wp2
          refine bodyPost_ret (results_none rfl _ _ _) rfl ?_
          exact ⟨⟨_, rfl⟩, .inr ⟨pre ++ [x], ⟨_, HSUB.out.symm⟩, hx3⟩⟩

end Go.Proofs.Ytbhpfhggcdccjaa
