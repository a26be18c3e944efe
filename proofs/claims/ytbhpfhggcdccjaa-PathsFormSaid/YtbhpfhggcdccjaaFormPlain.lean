/- The form of a path, plain: what the statement counts, and that it is what paths.Of tells. -/
import Derived.Test.YtbhpfhggcdccjaaMach
namespace Go.Proofs.Ytbhpfhggcdccjaa

structure Fst where
  ok : Bool
  shut : Bool
  n : Nat

def fstep (t : Fst) (s : Sg) : Fst := ⟨t.ok && !(decide (3 < s.k) || (decide (s.k ≠ 0) && t.shut)), decide (s.k = 3), if s.k = 0 then t.n + 1 else t.n⟩
def frun (t : Fst) (l : List Sg) : Fst := l.foldl fstep t
def form (l : List Sg) : Fst := frun ⟨true, true, 0⟩ l

theorem form_snoc (l : List Sg) (s : Sg) : form (l ++ [s]) = fstep (form l) s := by simp [form, frun]
theorem form_n_le (l : List Sg) : (form l).n ≤ l.length := by
  unfold form frun
  suffices H : ∀ (l : List Sg) (t : Fst), (l.foldl fstep t).n ≤ t.n + l.length by simpa using H l ⟨true, true, 0⟩
  intro l
  induction l with
  | nil => intro t; simp
  | cons s l ih =>
    intro t
    have := ih (fstep t s)
    have h : (fstep t s).n ≤ t.n + 1 := by unfold fstep; dsimp only; split <;> omega
    simp only [List.foldl_cons, List.length_cons]
    omega

def Rel (t : Mst) (f : Fst) : Prop := f.ok = !t.bad ∧ (t.bad = false → t.op = !f.shut ∧ (mfin t).length = f.n)

theorem Rel.step {t : Mst} {f : Fst} (h : Rel t f) (s : Sg) : Rel (mstep t s) (fstep f s) := by
  obtain ⟨bad, op, ls, cur⟩ := t
  obtain ⟨ok, shut, n⟩ := f
  obtain ⟨h1, h2⟩ := h
  dsimp only at h1 h2
  cases bad with
  | true => subst h1; simp [Rel, mstep, fstep]
  | false =>
    subst h1
    obtain ⟨h3, h4⟩ := h2 rfl
    subst h3
    by_cases hb : 3 < s.k
    · simp [Rel, mstep, fstep, hb]
    · by_cases h0 : s.k = 0
      · have e : mstep ⟨false, !shut, ls, cur⟩ s = ⟨false, true, if (!shut) = true then ls ++ [cur.l] else ls, lineStep lz s⟩ := by simp [mstep, h0]
        rw [e]
        refine ⟨by simp [fstep, h0], fun _ => ⟨by simp [fstep, h0], ?_⟩⟩
        show ((if (!shut) = true then ls ++ [cur.l] else ls) ++ [(lineStep lz s).l]).length = _
        rw [List.length_append]
        have : (mfin ⟨false, !shut, ls, cur⟩).length = n := h4
        unfold mfin at this
        rw [this]; simp [fstep, h0]
      · cases shut with
        | true => simp [Rel, mstep, fstep, h0]
        | false =>
          have h4' : (ls ++ [cur.l]).length = n := h4
          by_cases h3 : s.k = 3
          · have e : mstep ⟨false, !false, ls, cur⟩ s = ⟨false, false, ls ++ [cur.l], lz⟩ := by simp [mstep, h3]
            rw [e]
            exact ⟨by simp [fstep, hb], fun _ => ⟨by simp [fstep, h3], by simp only [mfin, fstep]; rw [if_neg h0]; simpa using h4'⟩⟩
          · have e : mstep ⟨false, !false, ls, cur⟩ s = ⟨false, true, ls, lineStep cur s⟩ := by
              simp only [mstep]
              rw [if_neg (by simp), if_neg (by simp; omega), if_neg h0, if_neg h3]
            rw [e]
            exact ⟨by simp [fstep, hb], fun _ => ⟨by simp [fstep, h3], by simp only [mfin, fstep]; rw [if_neg h0]; simpa using h4'⟩⟩

theorem Rel.run {t : Mst} {f : Fst} (h : Rel t f) : ∀ l : List Sg, Rel (mrun t l) (frun f l)
  | [] => h
  | s :: l => Rel.run (h.step s) l

theorem form_of (l : List Sg) (hl : ¬ 256 < l.length) : if (form l).ok then (pathsOf l).2 = 0 ∧ (pathsOf l).1.length = (form l).n else pathsOf l = ([], 4) := by
  have h : Rel (mach l) (form l) := Rel.run (t := ⟨false, false, [], lz⟩) (f := ⟨true, true, 0⟩) ⟨rfl, fun _ => ⟨rfl, rfl⟩⟩ l
  rw [pathsOf_mach, if_neg hl]
  obtain ⟨h1, h2⟩ := h
  cases hb : (mach l).bad with
  | true => rw [hb] at h1; simp [h1]
  | false =>
    rw [hb] at h1
    simp only [h1, Bool.not_false, if_true]
    exact ⟨rfl, (h2 hb).2⟩

theorem form_shut : ∀ (l : List Sg) (s : Sg), (form (l ++ [s])).shut = decide (s.k = 3) := fun l s => by rw [form_snoc]; rfl

theorem fs_bad {t : Fst} {s : Sg} (h : 3 < s.k ∨ (s.k ≠ 0 ∧ t.shut = true)) : (fstep t s).ok = false := by
  rcases h with h | ⟨h1, h2⟩
  · simp [fstep, h]
  · simp [fstep, h1, h2]
theorem fs_ok {t : Fst} {s : Sg} (h : ¬ 3 < s.k) (h' : s.k = 0 ∨ t.shut = false) : (fstep t s).ok = t.ok := by
  rcases h' with h1 | h1
  · simp [fstep, h1]
  · simp [fstep, h, h1]
theorem fs_n0 {t : Fst} {s : Sg} (h : s.k = 0) : (fstep t s).n = t.n + 1 := by simp [fstep, h]
theorem fs_n {t : Fst} {s : Sg} (h : s.k ≠ 0) : (fstep t s).n = t.n := by simp [fstep, h]
theorem form_shut0 (l : List Sg) : (form (l.take 0)).shut = true := by simp [form, frun]
theorem form_shut1 (l : List Sg) (k : Nat) (p : Sg) (h : l[k]? = some p) : (form (l.take (k + 1))).shut = decide (p.k = 3) := by
  rw [List.take_add_one, h]; exact form_shut _ _

end Go.Proofs.Ytbhpfhggcdccjaa
