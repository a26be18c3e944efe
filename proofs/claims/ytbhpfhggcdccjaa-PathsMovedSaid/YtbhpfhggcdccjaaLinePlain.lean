/- What the lines of a path are: lists of segments, plain. -/
import Derived.Test.YtbhpfhggcdccjaaPathC
import Derived.Test.YtbhpfhggcdccjaaPathD
namespace Go.Proofs.Ytbhpfhggcdccjaa

/-- A segment: its kind, and six numbers. -/
structure Sg where
  k : Int
  a : Int
  b : Int
  c : Int
  d : Int
  e : Int
  f : Int

def Sg.vals (s : Sg) : List Value := [.int .u8 s.k, .int .i32 s.a, .int .i32 s.b, .int .i32 s.c, .int .i32 s.d, .int .i32 s.e, .int .i32 s.f]
/-- Its numbers are of their kinds. -/
def Sg.ok (s : Sg) : Prop := (0 ≤ s.k ∧ s.k ≤ 255) ∧ (-2147483648 ≤ s.a ∧ s.a ≤ 2147483647) ∧ (-2147483648 ≤ s.b ∧ s.b ≤ 2147483647) ∧ (-2147483648 ≤ s.c ∧ s.c ≤ 2147483647) ∧
  (-2147483648 ≤ s.d ∧ s.d ≤ 2147483647) ∧ (-2147483648 ≤ s.e ∧ s.e ≤ 2147483647) ∧ (-2147483648 ≤ s.f ∧ s.f ≤ 2147483647)

/-- How many pieces a curve is parted in. -/
def piecesZ (x y : Int) (s : Sg) : Nat := 2 ^ levelZ (3 * bendZ x y s.a s.b s.c s.d s.e s.f)
/-- A curve's dots. -/
def curveDots (x y : Int) (s : Sg) (m : Nat) : List (Int × Int) :=
  (List.range m).map fun (i : Nat) => (cubicZ x s.a s.c s.e ((i : Int) + 1) (piecesZ x y s), cubicZ y s.b s.d s.f ((i : Int) + 1) (piecesZ x y s))

structure LineSt where
  x : Int
  y : Int
  l : List (Int × Int)

def lineStep (t : LineSt) (s : Sg) : LineSt :=
  if s.k = 2 then ⟨s.e, s.f, t.l ++ curveDots t.x t.y s (piecesZ t.x t.y s)⟩ else ⟨s.a, s.b, t.l ++ [(nearZ s.a 256, nearZ s.b 256)]⟩

def lineSt (l : List Sg) : LineSt := l.foldl lineStep ⟨0, 0, []⟩
/-- The dots of a sub-path. -/
def lineDots (l : List Sg) : List (Int × Int) := (lineSt l).l

def dotVals (l : List (Int × Int)) : List Value := l.flatMap fun d => [.int .i64 d.1, .int .i64 d.2]

theorem dotVals_append (l m : List (Int × Int)) : dotVals (l ++ m) = dotVals l ++ dotVals m := by simp [dotVals]
theorem dotVals_one (a b : Int) : dotVals [(a, b)] = [.int .i64 a, .int .i64 b] := rfl
theorem dotVals_length (l : List (Int × Int)) : (dotVals l).length = l.length * 2 := by
  induction l with
  | nil => rfl
  | cons a l ih => simp [dotVals] at ih ⊢; omega

theorem lineSt_snoc (l : List Sg) (s : Sg) : lineSt (l ++ [s]) = lineStep (lineSt l) s := by simp [lineSt]

theorem piecesZ_le (x y : Int) (s : Sg) : 1 ≤ piecesZ x y s ∧ piecesZ x y s ≤ 64 := by
  unfold piecesZ
  have h := levelZ_le (3 * bendZ x y s.a s.b s.c s.d s.e s.f)
  exact ⟨Nat.pow_pos (by decide), Nat.pow_le_pow_right (n := 2) (by decide) h⟩

theorem curveDots_length (x y : Int) (s : Sg) (m : Nat) : (curveDots x y s m).length = m := by simp [curveDots]
theorem curveDots_succ (x y : Int) (s : Sg) (m : Nat) : curveDots x y s (m + 1) = curveDots x y s m ++ [(cubicZ x s.a s.c s.e ((m : Int) + 1) (piecesZ x y s), cubicZ y s.b s.d s.f ((m : Int) + 1) (piecesZ x y s))] := by
  simp [curveDots, List.range_succ]

/-- Where the line is, and how many dots it has: bounds. -/
theorem lineSt_b (l : List Sg) (h : ∀ s ∈ l, s.ok) : (-2147483648 ≤ (lineSt l).x ∧ (lineSt l).x ≤ 2147483647) ∧ (-2147483648 ≤ (lineSt l).y ∧ (lineSt l).y ≤ 2147483647) ∧ (lineSt l).l.length ≤ 64 * l.length := by
  unfold lineSt
  suffices H : ∀ (l : List Sg) (t : LineSt), (∀ s ∈ l, s.ok) → (-2147483648 ≤ t.x ∧ t.x ≤ 2147483647) → (-2147483648 ≤ t.y ∧ t.y ≤ 2147483647) →
      (-2147483648 ≤ (l.foldl lineStep t).x ∧ (l.foldl lineStep t).x ≤ 2147483647) ∧ (-2147483648 ≤ (l.foldl lineStep t).y ∧ (l.foldl lineStep t).y ≤ 2147483647) ∧ (l.foldl lineStep t).l.length ≤ t.l.length + 64 * l.length by
    have := H l ⟨0, 0, []⟩ h (by simp) (by simp)
    simpa using this
  intro l
  induction l with
  | nil => intro t _ hx hy; exact ⟨hx, hy, by simp⟩
  | cons s l ih =>
    intro t hs hx hy
    have hk := hs s (by simp)
    have hp := piecesZ_le t.x t.y s
    simp only [List.foldl_cons]
    have := ih (lineStep t s) (fun u hu => hs u (by simp [hu]))
      (by unfold lineStep; split; exact hk.2.2.2.2.2.1; exact hk.2.1)
      (by unfold lineStep; split; exact hk.2.2.2.2.2.2; exact hk.2.2.1)
    refine ⟨this.1, this.2.1, Nat.le_trans this.2.2 ?_⟩
    unfold lineStep
    split <;> simp [curveDots_length] <;> omega

end Go.Proofs.Ytbhpfhggcdccjaa
