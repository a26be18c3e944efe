/- Paths behind others, plain. -/
import Derived.Test.YtbhpfhggcdccjaaFormPlain
namespace Go.Proofs.Ytbhpfhggcdccjaa

theorem mstep_pre (L : List (List (Int × Int))) (b o : Bool) (ls : List (List (Int × Int))) (c : LineSt) (s : Sg) :
    mstep ⟨b, o, L ++ ls, c⟩ s = ⟨(mstep ⟨b, o, ls, c⟩ s).bad, (mstep ⟨b, o, ls, c⟩ s).op, L ++ (mstep ⟨b, o, ls, c⟩ s).ls, (mstep ⟨b, o, ls, c⟩ s).cur⟩ := by
  unfold mstep
  dsimp only
  split
  · rfl
  · split
    · rfl
    · split
      · cases o <;> simp
      · split
        · simp
        · rfl

theorem mrun_pre (L : List (List (Int × Int))) : ∀ (l : List Sg) (b o : Bool) (ls : List (List (Int × Int))) (c : LineSt),
    mrun ⟨b, o, L ++ ls, c⟩ l = ⟨(mrun ⟨b, o, ls, c⟩ l).bad, (mrun ⟨b, o, ls, c⟩ l).op, L ++ (mrun ⟨b, o, ls, c⟩ l).ls, (mrun ⟨b, o, ls, c⟩ l).cur⟩
  | [], b, o, ls, c => rfl
  | s :: l, b, o, ls, c => by
    rw [mrun_cons, mrun_cons, mstep_pre]
    exact mrun_pre L l _ _ _ _

/-- A path in order, from a state at whose end nothing is open, or a line that its move ends. -/
theorem mrun_join (t : Mst) (ht : t.bad = false) (m : List Sg) (hm : (mach m).bad = false) : (mrun t m).bad = false ∧ mfin (mrun t m) = mfin t ++ mfin (mach m) := by
  cases m with
  | nil =>
    have e : mfin (mach []) = [] := rfl
    rw [e, List.append_nil]
    exact ⟨ht, rfl⟩
  | cons s m =>
    obtain ⟨bad, op, ls, cur⟩ := t
    dsimp only at ht
    subst ht
    have hk : s.k = 0 := by
      by_cases h : s.k = 0
      · exact h
      · have e : mstep ⟨false, false, [], lz⟩ s = ⟨true, false, [], lz⟩ := by simp [mstep, h]
        have : (mrun ⟨false, false, [], lz⟩ (s :: m)).bad = false := hm
        rw [mrun_cons, e, mrun_bad rfl] at this
        cases this
    have e1 : mstep ⟨false, op, ls, cur⟩ s = ⟨false, true, mfin ⟨false, op, ls, cur⟩ ++ [], lineStep lz s⟩ := by simp [mstep, hk, mfin]
    have e2 : mach (s :: m) = mrun ⟨false, true, [], lineStep lz s⟩ m := by
      show mrun ⟨false, false, [], lz⟩ (s :: m) = _
      rw [mrun_cons]
      congr 1
      simp [mstep, hk]
    rw [mrun_cons, e1, mrun_pre, ← e2]
    refine ⟨hm, ?_⟩
    generalize mach (s :: m) = r
    simp only [mfin]
    split <;> simp

theorem pathsOf_ok {l : List Sg} {a : List (List (Int × Int))} (hl : l.length ≤ 256) (h : pathsOf l = (a, 0)) : (mach l).bad = false ∧ mfin (mach l) = a := by
  rw [pathsOf_mach, if_neg (by omega)] at h
  cases hb : (mach l).bad with
  | true => rw [hb] at h; simp at h
  | false => rw [hb] at h; simp at h; exact ⟨rfl, h⟩
theorem pathsOf_bad {l : List Sg} {a : List (List (Int × Int))} {e : Int} (hl : l.length ≤ 256) (h : pathsOf l = (a, e)) (he : e ≠ 0) : (mach l).bad = true ∧ a = [] ∧ e = 4 := by
  rw [pathsOf_mach, if_neg (by omega)] at h
  cases hb : (mach l).bad with
  | true => rw [hb] at h; simp at h; exact ⟨rfl, h.1, h.2.symm⟩
  | false => rw [hb] at h; simp at h; exact absurd h.2.symm he

theorem join_bad {l m : List Sg} {a : List (List (Int × Int))} {e : Int} (hl : l.length ≤ 100) (hm : m.length ≤ 100) (h : pathsOf l = (a, e)) (he : e ≠ 0) : a = [] ∧ e = 4 ∧ pathsOf (l ++ m) = ([], 4) := by
  obtain ⟨h1, h2, h3⟩ := pathsOf_bad (by omega) h he
  refine ⟨h2, h3, ?_⟩
  rw [pathsOf_mach, if_neg (by rw [List.length_append]; omega)]
  have : mach (l ++ m) = mach l := by
    show mrun _ (l ++ m) = _
    rw [mrun_append]; exact mrun_bad h1 m
  rw [this, h1]; rfl

theorem join_ok {l m : List Sg} {a b : List (List (Int × Int))} (hl : l.length ≤ 100) (hm : m.length ≤ 100) (h : pathsOf l = (a, 0)) (h' : pathsOf m = (b, 0)) : pathsOf (l ++ m) = (a ++ b, 0) := by
  obtain ⟨h1, h2⟩ := pathsOf_ok (by omega) h
  obtain ⟨h3, h4⟩ := pathsOf_ok (by omega) h'
  rw [pathsOf_mach, if_neg (by rw [List.length_append]; omega)]
  have e : mach (l ++ m) = mrun (mach l) m := mrun_append _ l m
  obtain ⟨g1, g2⟩ := mrun_join (mach l) h1 m h3
  rw [e, g1, g2, h2, h4]; rfl

theorem join_shut {l m : List Sg} {s u : Sg} {a b : List (List (Int × Int))} (hl : (l ++ [s]).length ≤ 100) (hm : m.length ≤ 100) (hs : s.k ≠ 3) (hu : u.k = 3) (h : pathsOf (l ++ [s]) = (a, 0)) (h' : pathsOf m = (b, 0)) :
    pathsOf ((l ++ [s]) ++ [u] ++ m) = (a ++ b, 0) := by
  obtain ⟨h1, h2⟩ := pathsOf_ok (by omega) h
  obtain ⟨h3, h4⟩ := pathsOf_ok (by omega) h'
  rw [pathsOf_mach, if_neg (by simp at hl ⊢; omega)]
  have e : mach ((l ++ [s]) ++ [u] ++ m) = mrun (mstep (mach (l ++ [s])) u) m := by
    show mrun _ _ = _
    rw [mrun_append, mrun_append]; rfl
  have hr : Rel (mach (l ++ [s])) (form (l ++ [s])) := Rel.run (t := ⟨false, false, [], lz⟩) (f := ⟨true, true, 0⟩) ⟨rfl, fun _ => ⟨rfl, rfl⟩⟩ (l ++ [s])
  have hop : (mach (l ++ [s])).op = true := by
    rw [(hr.2 h1).1, form_shut]; simp [hs]
  have e2 : mstep (mach (l ++ [s])) u = ⟨false, false, a, lz⟩ := by
    rw [← h2]
    generalize mach (l ++ [s]) = t at *
    obtain ⟨bad, op, ls, cur⟩ := t
    dsimp only at h1 hop
    subst h1 hop
    simp [mstep, hu, mfin]
  obtain ⟨g1, g2⟩ := mrun_join ⟨false, false, a, lz⟩ rfl m h3
  rw [e, e2, g1, g2, h4]; rfl

theorem len_small {l : List Sg} {a : List (List (Int × Int))} {e : Int} (hl : l.length ≤ 256) (hok : ∀ s ∈ l, s.ok) (h : pathsOf l = (a, e)) : a.length ≤ 1000000 ∧ ∀ d ∈ a, d.length ≤ 1000000 := by
  have h1 := form_of l (by omega)
  have h2 := form_n_le l
  refine ⟨?_, fun d hd => ?_⟩
  · split at h1
    · rw [h] at h1; have := h1.2; simp at this; omega
    · rw [h] at h1; simp at h1; rw [h1.1]; simp
  · have h3 : d ∈ (pathsOf l).1 := by rw [h]; exact hd
    unfold pathsOf at h3
    rw [if_neg (by omega)] at h3
    split at h3
    · obtain ⟨x, hx, rfl⟩ := List.mem_map.1 h3
      have hsub : ∀ (f : Nat) (l x : List Sg), x ∈ subsF f l → x.length ≤ l.length ∧ ∀ s ∈ x, s ∈ l := by
        intro f
        induction f with
        | zero => intro l x hx; simp [subsF] at hx
        | succ f ih =>
          intro l x hx
          cases l with
          | nil => simp [subsF] at hx
          | cons s r =>
            simp only [subsF, List.mem_cons] at hx
            rcases hx with rfl | hx
            · exact ⟨by rw [List.length_take]; omega, fun u hu => List.mem_of_mem_take hu⟩
            · have := ih _ _ hx
              have hd := dropShut_le ((s :: r).drop (cutN (s :: r)))
              have hsub : ∀ u ∈ dropShut ((s :: r).drop (cutN (s :: r))), u ∈ s :: r := fun u hu => by
                have : u ∈ (s :: r).drop (cutN (s :: r)) := by
                  revert hu
                  generalize (s :: r).drop (cutN (s :: r)) = y
                  intro hu
                  cases y with
                  | nil => exact hu
                  | cons z y =>
                    have e : dropShut (z :: y) = if z.k = 3 then y else z :: y := rfl
                    rw [e] at hu
                    split at hu
                    · exact List.mem_cons_of_mem _ hu
                    · exact hu
                exact List.mem_of_mem_drop this
              refine ⟨?_, fun u hu => hsub u (this.2 u hu)⟩
              rw [List.length_drop] at hd
              omega
      have hx' := hsub _ _ _ hx
      have := (lineSt_b x fun s hs => hok s (hx'.2 s hs)).2.2
      show (lineSt x).l.length ≤ _
      omega
    · simp at h3

end Go.Proofs.Ytbhpfhggcdccjaa
