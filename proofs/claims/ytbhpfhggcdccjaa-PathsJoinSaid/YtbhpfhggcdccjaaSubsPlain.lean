/- The sub-paths of a path: plain lists. -/
import Derived.Test.YtbhpfhggcdccjaaIndex
namespace Go.Proofs.Ytbhpfhggcdccjaa

/-- How many segments the first sub-path has. -/
def cutN : List Sg → Nat
  | [] => 0
  | _ :: r => if firstAt sepB r < 0 then r.length + 1 else (firstAt sepB r).toNat + 1

def dropShut : List Sg → List Sg
  | [] => []
  | s :: r => if s.k = 3 then r else s :: r

theorem cutN_b (s : Sg) (r : List Sg) : 1 ≤ cutN (s :: r) ∧ cutN (s :: r) ≤ (s :: r).length := by
  have h := firstAt_lo sepB r
  have e : cutN (s :: r) = if firstAt sepB r < 0 then r.length + 1 else (firstAt sepB r).toNat + 1 := rfl
  have hl : (s :: r).length = r.length + 1 := rfl
  rw [e, hl]
  split <;> omega

theorem dropShut_le (l : List Sg) : (dropShut l).length ≤ l.length := by
  cases l with
  | nil => simp [dropShut]
  | cons s r =>
    have e : dropShut (s :: r) = if s.k = 3 then r else s :: r := rfl
    rw [e]; split <;> simp

/-- The sub-paths, one behind the other, without their shuts. -/
def subsF : Nat → List Sg → List (List Sg)
  | 0, _ => []
  | _ + 1, [] => []
  | f + 1, s :: r => (s :: r).take (cutN (s :: r)) :: subsF f (dropShut ((s :: r).drop (cutN (s :: r))))

theorem subsF_fuel : ∀ (f g : Nat) (l : List Sg), l.length ≤ f → l.length ≤ g → subsF f l = subsF g l
  | 0, 0, _, _, _ => rfl
  | 0, g + 1, [], _, _ => rfl
  | f + 1, 0, [], _, _ => rfl
  | f + 1, g + 1, [], _, _ => rfl
  | 0, _ + 1, _ :: _, h, _ => by simp at h
  | _ + 1, 0, _ :: _, _, h => by simp at h
  | f + 1, g + 1, s :: r, hf, hg => by
    have hc := cutN_b s r
    have hd : (dropShut ((s :: r).drop (cutN (s :: r)))).length ≤ r.length := by
      refine Nat.le_trans (dropShut_le _) ?_
      rw [List.length_drop]; simp; omega
    simp only [List.length_cons] at hf hg
    unfold subsF
    rw [subsF_fuel f g _ (by omega) (by omega)]

def subsL (l : List Sg) : List (List Sg) := subsF l.length l
theorem subsL_nil : subsL [] = [] := rfl
theorem subsL_cons (s : Sg) (r : List Sg) : subsL (s :: r) = (s :: r).take (cutN (s :: r)) :: subsL (dropShut ((s :: r).drop (cutN (s :: r)))) := by
  have hc := cutN_b s r
  have hd : (dropShut ((s :: r).drop (cutN (s :: r)))).length ≤ r.length := by
    refine Nat.le_trans (dropShut_le _) ?_
    rw [List.length_drop]; simp; omega
  show subsF (r.length + 1) (s :: r) = _
  unfold subsF
  rw [subsF_fuel r.length (dropShut ((s :: r).drop (cutN (s :: r)))).length _ hd (Nat.le_refl _)]
  rfl

theorem subsL_ne (l : List Sg) : ∀ x ∈ subsL l, x ≠ [] := by
  suffices H : ∀ (f : Nat) (l : List Sg), ∀ x ∈ subsF f l, x ≠ [] from H _ _
  intro f
  induction f with
  | zero => intro l x hx; simp [subsF] at hx
  | succ f ih =>
    intro l x hx
    cases l with
    | nil => simp [subsF] at hx
    | cons s r =>
      have hc := cutN_b s r
      simp only [subsF, List.mem_cons] at hx
      rcases hx with rfl | hx
      · intro h
        have : ((s :: r).take (cutN (s :: r))).length = 0 := by rw [h]; rfl
        rw [List.length_take] at this
        omega
      · exact ih _ _ hx

end Go.Proofs.Ytbhpfhggcdccjaa
