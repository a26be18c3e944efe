/- Segments that came in: a slice of them, opened to its cells. -/
import Derived.Test.YtbhpfhggcdccjaaLine
import Derived.Test.YtbhpfhggcdccjaaRows
import Derived.ProofKit
import Derived.OpenShut
import Derived.ChangeOld
import Derived.Deep.Slices
namespace Go.Proofs.Ytbhpfhggcdccjaa
open Go.RowKit Go.ChangeShapes Go.WideShapes Go.Deep

theorem own : ownKnob Try.prog.godebug = none := by kernel_rfl
theorem laidOut : laidOutB Try.prog = true := by kernel_rfl

section
variable {H : Type} {enc : TypeId × Value → H} {W : World} {base : Nat} {spare : Nat → Bool} {held : Bool}

theorem seg_cells {n : Nat} {cs : List Value} {x : DataW H × List MemPlace} (h : DataW.trod enc Try.prog W base spare held n 29 cs = some x) : ∃ s : Sg, s.ok ∧ cs = s.vals := by
  have c29 : Try.prog.cellsOf 29 = 7 := by kernel_rfl
  have c26 : Try.prog.cellsOf 26 = 1 := by kernel_rfl
  obtain ⟨ys, m, _, _, hcl, hyl, hg⟩ := DataW.trod_struct Try.underlying29 h
  rw [c29] at hcl
  match cs, hcl with
  | [v0, v1, v2, v3, v4, v5, v6], _ =>
    match ys, hyl with
    | [y0, y1], _ =>
      have g0 := hg 0 _ rfl
      have g1 := hg 1 _ rfl
      simp only [List.getElem?_cons_zero] at g0
      simp only [List.getElem?_cons_succ, List.getElem?_cons_zero] at g1
      obtain ⟨k, hk, _, wk⟩ := DataW.trod_int Try.underlying25 g0
      obtain ⟨zs, m', _, _, _, hzl, hz⟩ := DataW.trod_array Try.underlying27 g1
      rw [c26] at hz
      match zs, hzl with
      | [z0, z1, z2, z3, z4, z5], _ =>
        have r0 := hz 0 (by omega)
        have r1 := hz 1 (by omega)
        have r2 := hz 2 (by omega)
        have r3 := hz 3 (by omega)
        have r4 := hz 4 (by omega)
        have r5 := hz 5 (by omega)
        simp only [Nat.mul_one, List.drop_zero, List.getElem?_cons_zero, List.getElem?_cons_succ] at r0 r1 r2 r3 r4 r5
        obtain ⟨a, ha, _, wa⟩ := DataW.trod_int Try.underlying26 r0
        obtain ⟨b, hb, _, wb⟩ := DataW.trod_int Try.underlying26 r1
        obtain ⟨c, hc, _, wc⟩ := DataW.trod_int Try.underlying26 r2
        obtain ⟨d, hd, _, wd⟩ := DataW.trod_int Try.underlying26 r3
        obtain ⟨e, he, _, we⟩ := DataW.trod_int Try.underlying26 r4
        obtain ⟨f, hf, _, wf⟩ := DataW.trod_int Try.underlying26 r5
        cases hk; cases ha; cases hb; cases hc; cases hd; cases he; cases hf
        simp [Lit.wf, IntKind.min, IntKind.max, IntKind.signed, IntKind.bits] at wk wa wb wc wd we wf
        exact ⟨⟨k, a, b, c, d, e, f⟩, ⟨by omega, by omega, by omega, by omega, by omega, by omega, by omega⟩, rfl⟩

/-- A slice of segments. -/
theorem open_segs {d : DataW H} {ps : List MemPlace} {a : Option Addr} {len cap : Nat} (h : DataW.Trod enc Try.prog W 0 spare held 22 (.slice a len cap) d ps) :
    ∃ l : List Sg, l.length = len ∧ len ≤ cap ∧ cap ≤ 9223372036854775807 ∧ (∀ s ∈ l, s.ok) ∧ SegsAt W W.heap.size a l := by
  obtain ⟨fuel, hf⟩ := h
  have c29 : Try.prog.cellsOf 29 = 7 := by kernel_rfl
  rcases open_slice Try.underlying22 hf with ⟨hcs, _⟩ | ⟨x, l, c, m, n, D, Pl, hcs, _, hl, hm, hmm, _, hi⟩
  · simp [Value.cells] at hcs
    obtain ⟨rfl, rfl, rfl⟩ := hcs
    exact ⟨[], rfl, Nat.le_refl _, by omega, by simp, .inl rfl⟩
  · simp [Value.cells] at hcs
    obtain ⟨rfl, rfl, rfl⟩ := hcs
    rw [c29] at hi
    unfold maxLen at hm
    have hlm : len ≤ m := by rw [hmm]; split <;> omega
    have key : ∀ i, i < len → ∃ s : Sg, s.ok ∧ ∀ (j : Nat) (u : Value), s.vals[j]? = some u → W.cell? ((x.add (i * 7)).add j) = some u := fun i hil => by
      obtain ⟨cs', hc, ht⟩ := hi i (by omega)
      obtain ⟨s, hs, rfl⟩ := seg_cells ht
      obtain ⟨_, _, hat⟩ := World.cells?_some hc
      exact ⟨s, hs, fun j u hu => by rw [hat j (List.getElem?_eq_some_iff.1 hu).1]; exact hu⟩
    have : Inhabited Sg := ⟨⟨0, 0, 0, 0, 0, 0, 0⟩⟩
    obtain ⟨f, hfs⟩ := choose_lt key
    refine ⟨(List.range len).map f, by simp, hl, by omega, fun s hs => ?_, ?_⟩
    · obtain ⟨i, hi', rfl⟩ := List.mem_map.1 hs
      exact (hfs i (List.mem_range.1 hi')).1
    · by_cases h0 : len = 0
      · subst h0; exact .inl rfl
      · obtain ⟨b, off, spot⟩ := x
        have hc0 := (hfs 0 (by omega)).2 0 _ rfl
        have hspot : spot = none := by simpa [Addr.add] using World.cell?_spot hc0
        subst hspot
        refine .inr ⟨b, off, rfl, ?_, fun i s his j u hu => ?_⟩
        · rcases Nat.lt_or_ge b W.heap.size with h | h
          · exact h
          · simp [Addr.add, World.cell?, Array.getElem?_eq_none h] at hc0
        · have hil : i < len := by
            rcases Nat.lt_or_ge i len with h | h
            · exact h
            · simp [h] at his
          simp [hil] at his
          subst his
          have := (hfs i hil).2 j u hu
          rw [add_add] at this
          have e : (⟨b, off, none⟩ : Addr).add (i * 7 + j) = ⟨b, off + i * 7 + j, none⟩ := by
            unfold Addr.add
            split
            · rename_i hz; have e0 : off + i * 7 + j = off := by omega
              rw [e0]
            · simp [Nat.add_assoc]
          rw [e] at this
          exact this
end

end Go.Proofs.Ytbhpfhggcdccjaa
