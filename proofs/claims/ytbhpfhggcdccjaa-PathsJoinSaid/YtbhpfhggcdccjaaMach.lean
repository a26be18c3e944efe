/- The lines of a path, told segment by segment: a plain machine, and that it tells what the contract of paths.Of tells. -/
import Derived.Test.YtbhpfhggcdccjaaOf
namespace Go.Proofs.Ytbhpfhggcdccjaa

structure Mst where
  bad : Bool
  op : Bool
  ls : List (List (Int × Int))
  cur : LineSt

def lz : LineSt := ⟨0, 0, []⟩

def mstep (t : Mst) (s : Sg) : Mst :=
  if t.bad then t
  else if 3 < s.k ∨ (t.op = false ∧ s.k ≠ 0) then ⟨true, t.op, t.ls, t.cur⟩
  else if s.k = 0 then ⟨false, true, if t.op then t.ls ++ [t.cur.l] else t.ls, lineStep lz s⟩
  else if s.k = 3 then ⟨false, false, t.ls ++ [t.cur.l], lz⟩
  else ⟨false, true, t.ls, lineStep t.cur s⟩

def mfin (t : Mst) : List (List (Int × Int)) := if t.op then t.ls ++ [t.cur.l] else t.ls
def mrun (t : Mst) (l : List Sg) : Mst := l.foldl mstep t
def mach (l : List Sg) : Mst := mrun ⟨false, false, [], lz⟩ l

theorem mrun_append (t : Mst) (l m : List Sg) : mrun t (l ++ m) = mrun (mrun t l) m := by simp [mrun]
theorem mrun_cons (t : Mst) (s : Sg) (m : List Sg) : mrun t (s :: m) = mrun (mstep t s) m := rfl
theorem mstep_bad {t : Mst} (h : t.bad = true) (s : Sg) : mstep t s = t := by simp [mstep, h]
theorem mrun_bad {t : Mst} (h : t.bad = true) : ∀ l : List Sg, mrun t l = t
  | [] => rfl
  | s :: l => by rw [mrun_cons, mstep_bad h, mrun_bad h l]

/-- Segments that part nothing, behind a move. -/
theorem mrun_plain (ls : List (List (Int × Int))) : ∀ (l : List Sg) (c : LineSt), (∀ s ∈ l, sepB s.k = false) →
    if l.all (fun s => !badB s.k) then mrun ⟨false, true, ls, c⟩ l = ⟨false, true, ls, l.foldl lineStep c⟩ else (mrun ⟨false, true, ls, c⟩ l).bad = true
  | [], c, _ => by simp [mrun]
  | s :: l, c, h => by
    have hs := h s (by simp)
    simp only [sepB, decide_eq_false_iff_not] at hs
    rw [mrun_cons]
    by_cases hb : 3 < s.k
    · have e : mstep ⟨false, true, ls, c⟩ s = ⟨true, true, ls, c⟩ := by simp [mstep, hb]
      have e2 : badB s.k = true := by simp [badB, hb]
      rw [e, mrun_bad rfl]
      simp [e2]
    · have e : mstep ⟨false, true, ls, c⟩ s = ⟨false, true, ls, lineStep c s⟩ := by
        simp only [mstep]
        rw [if_neg (by simp), if_neg (by simp; omega), if_neg (by omega), if_neg (by omega)]
      have e2 : badB s.k = false := by simp [badB, hb]
      rw [e]
      have := mrun_plain ls l (lineStep c s) fun u hu => h u (by simp [hu])
      simp only [List.all_cons, e2, Bool.not_false, Bool.true_and, List.foldl_cons]
      exact this

theorem firstAt_neg (p : Int → Bool) : ∀ l : List Sg, firstAt p l < 0 → ∀ s ∈ l, p s.k = false
  | [], _, s, hs => by simp at hs
  | u :: l, h, s, hs => by
    unfold firstAt at h
    split at h
    · omega
    · rename_i hp
      have hl := firstAt_lo p l
      split at h
      · rename_i hn
        rcases List.mem_cons.1 hs with rfl | hs
        · simpa using hp
        · exact firstAt_neg p l hn s hs
      · omega

theorem firstAt_pos (p : Int → Bool) : ∀ l : List Sg, ¬ firstAt p l < 0 → ∃ (a : List Sg) (u : Sg) (b : List Sg), l = a ++ u :: b ∧ a.length = (firstAt p l).toNat ∧ p u.k = true ∧ ∀ s ∈ a, p s.k = false
  | [], h => by simp [firstAt] at h
  | u :: l, h => by
    by_cases hp : p u.k = true
    · exact ⟨[], u, l, rfl, by simp [firstAt, hp], hp, by simp⟩
    · have hl := firstAt_lo p l
      have e : firstAt p (u :: l) = if firstAt p l < 0 then -1 else firstAt p l + 1 := by simp [firstAt, hp]
      rw [e] at h ⊢
      by_cases hn : firstAt p l < 0
      · rw [if_pos hn] at h; omega
      · rw [if_neg hn]
        obtain ⟨a, v, b, h1, h2, h3, h4⟩ := firstAt_pos p l hn
        refine ⟨u :: a, v, b, by rw [h1]; rfl, by simp [h2]; omega, h3, fun s hs => ?_⟩
        rcases List.mem_cons.1 hs with rfl | hs
        · simpa using hp
        · exact h4 s hs

theorem subOk_cons (s : Sg) (r : List Sg) : subOk (s :: r) = (decide (s.k = 0) && r.all fun u => !badB u.k) := by
  have h0 : ∀ l : List Sg, decide (firstAt badB l < 0) = l.all fun u => !badB u.k := by
    intro l
    induction l with
    | nil => rfl
    | cons u l ih =>
      have hl := firstAt_lo badB l
      rw [List.all_cons, ← ih]
      cases hb : badB u.k with
      | true => simp [firstAt, hb]
      | false =>
        simp only [firstAt, hb, Bool.not_false, Bool.true_and]
        by_cases hn : firstAt badB l < 0
        · simp [hn]
        · simp [hn]; omega
  show (s.k == 0 && decide (firstAt badB (s :: r) < 0)) = _
  rw [h0, List.all_cons]
  by_cases hk : s.k = 0
  · simp [hk, badB]
  · simp [hk]

/-- A sub-path, from its first segment on. -/
theorem mrun_sub (ls : List (List (Int × Int))) (s : Sg) (r : List Sg) (hr : ∀ u ∈ r, sepB u.k = false) :
    if subOk (s :: r) then ∃ c : LineSt, mrun ⟨false, false, ls, lz⟩ (s :: r) = ⟨false, true, ls, c⟩ ∧ c.l = lineDots (s :: r) else (mrun ⟨false, false, ls, lz⟩ (s :: r)).bad = true := by
  rw [subOk_cons, mrun_cons]
  by_cases hk : s.k = 0
  · have e : mstep ⟨false, false, ls, lz⟩ s = ⟨false, true, ls, lineStep lz s⟩ := by simp [mstep, hk]
    rw [e]
    have h := mrun_plain ls r (lineStep lz s) hr
    simp only [hk, decide_true, Bool.true_and]
    split
    · rename_i hb
      rw [if_pos hb] at h
      exact ⟨_, h, rfl⟩
    · rename_i hb
      rw [if_neg hb] at h
      exact h
  · have e : mstep ⟨false, false, ls, lz⟩ s = ⟨true, false, ls, lz⟩ := by simp [mstep, hk]
    rw [e, mrun_bad rfl]
    simp [hk]

theorem mach_subs : ∀ (f : Nat) (l : List Sg) (ls : List (List (Int × Int))), l.length ≤ f →
    if (subsF f l).all subOk then (mrun ⟨false, false, ls, lz⟩ l).bad = false ∧ mfin (mrun ⟨false, false, ls, lz⟩ l) = ls ++ (subsF f l).map lineDots else (mrun ⟨false, false, ls, lz⟩ l).bad = true
  | 0, l, ls, h => by
    obtain rfl : l = [] := List.eq_nil_of_length_eq_zero (by omega)
    simp [subsF, mrun, mfin]
  | f + 1, [], ls, h => by simp [subsF, mrun, mfin]
  | f + 1, s :: r, ls, h => by
    have hc : cutN (s :: r) = if firstAt sepB r < 0 then r.length + 1 else (firstAt sepB r).toNat + 1 := rfl
    have hF : subsF (f + 1) (s :: r) = (s :: r).take (cutN (s :: r)) :: subsF f (dropShut ((s :: r).drop (cutN (s :: r)))) := rfl
    have hlen : r.length ≤ f := by simpa using h
    by_cases hn : firstAt sepB r < 0
    · rw [if_pos hn] at hc
      have e1 : (s :: r).take (cutN (s :: r)) = s :: r := by rw [hc]; exact List.take_of_length_le (by simp)
      have e2 : (s :: r).drop (cutN (s :: r)) = [] := by rw [hc]; exact List.drop_of_length_le (by simp)
      have e3 : subsF f (dropShut []) = [] := by cases f <;> rfl
      rw [hF, e1, e2, e3]
      have hm := mrun_sub ls s r (firstAt_neg sepB r hn)
      simp only [List.all_cons, List.all_nil, Bool.and_true, List.map_cons, List.map_nil]
      cases hb : subOk (s :: r) with
      | true =>
        rw [hb] at hm
        obtain ⟨c, hm, hcl⟩ := hm
        rw [hm]
        simp [mfin, hcl]
      | false =>
        rw [hb] at hm
        simpa using hm
    · rw [if_neg hn] at hc
      obtain ⟨a, u, b, hab, hal, hu, ha⟩ := firstAt_pos sepB r hn
      have e1 : (s :: r).take (cutN (s :: r)) = s :: a := by rw [hc, ← hal, hab]; simp
      have e2 : (s :: r).drop (cutN (s :: r)) = u :: b := by rw [hc, ← hal, hab]; simp
      have e4 : s :: r = (s :: a) ++ u :: b := by rw [hab]; rfl
      have hbl : b.length + 1 ≤ f := by rw [hab] at hlen; simp at hlen; omega
      rw [hF, e1, e2, e4, mrun_append]
      have hm := mrun_sub ls s a ha
      simp only [List.all_cons, List.map_cons]
      cases hb : subOk (s :: a) with
      | false =>
        rw [hb] at hm
        simp only [Bool.false_eq_true, if_false] at hm
        rw [mrun_bad hm]
        simpa using hm
      | true =>
        rw [hb] at hm
        obtain ⟨c, hm, hcl⟩ := hm
        rw [hm]
        simp only [Bool.true_and]
        have e5 : mrun ⟨false, true, ls, c⟩ (u :: b) = mrun ⟨false, false, ls ++ [lineDots (s :: a)], lz⟩ (dropShut (u :: b)) := by
          have ed : dropShut (u :: b) = if u.k = 3 then b else u :: b := rfl
          rw [ed, mrun_cons]
          simp only [sepB, decide_eq_true_eq] at hu
          rcases hu with hu | hu
          · rw [if_neg (by omega), mrun_cons]
            congr 1
            simp [mstep, hu, hcl]
          · rw [if_pos hu]
            congr 1
            simp [mstep, hu, hcl]
        rw [e5]
        have ih := mach_subs f (dropShut (u :: b)) (ls ++ [lineDots (s :: a)]) (Nat.le_trans (dropShut_le _) (by simpa using hbl))
        split
        · rename_i hh
          rw [if_pos hh] at ih
          exact ⟨ih.1, by rw [ih.2, List.append_assoc]; rfl⟩
        · rename_i hh
          rw [if_neg hh] at ih
          exact ih

/-- What paths.Of tells, by the machine. -/
theorem pathsOf_mach (l : List Sg) : pathsOf l = if 256 < l.length then ([], 3) else if (mach l).bad then ([], 4) else (mfin (mach l), 0) := by
  have h := mach_subs l.length l [] (Nat.le_refl _)
  unfold pathsOf
  by_cases h1 : 256 < l.length
  · rw [if_pos h1, if_pos h1]
  · rw [if_neg h1, if_neg h1]
    show (if (subsF l.length l).all subOk then ((subsF l.length l).map lineDots, (0 : Int)) else ([], 4)) = if (mrun ⟨false, false, [], lz⟩ l).bad then ([], 4) else (mfin (mrun ⟨false, false, [], lz⟩ l), 0)
    split
    · rename_i hh
      rw [if_pos hh] at h
      rw [h.1, h.2]; rfl
    · rename_i hh
      rw [if_neg hh] at h
      rw [h]; rfl

end Go.Proofs.Ytbhpfhggcdccjaa
