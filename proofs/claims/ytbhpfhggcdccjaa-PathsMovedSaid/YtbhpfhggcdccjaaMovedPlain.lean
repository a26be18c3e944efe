/- A path that is moved by whole 256ths, plain: all its dots are moved so. -/
import Derived.Test.YtbhpfhggcdccjaaFormPlain
namespace Go.Proofs.Ytbhpfhggcdccjaa

theorem nearZ_add (z d t : Int) (hd : 0 < d) : nearZ (z + d * t) d = nearZ z d + t := by
  unfold nearZ
  have e : 2 * (z + d * t) + d = 2 * z + d + t * (2 * d) := by grind
  rw [e, Int.add_mul_ediv_right _ _ (by omega)]

theorem cubicZ_add (a b c d i n t : Int) (hn : 1 ≤ n) : cubicZ (a + 256 * t) (b + 256 * t) (c + 256 * t) (d + 256 * t) i n = cubicZ a b c d i n + t := by
  unfold cubicZ
  have h1 : 1 ≤ n * (n * n) := by
    have h2 : 1 * 1 ≤ n * n := Int.mul_le_mul hn hn (by omega) (by omega)
    have h3 : 1 * 1 ≤ n * (n * n) := Int.mul_le_mul hn (by omega) (by omega) (by omega)
    omega
  rw [← nearZ_add _ _ _ (by omega)]
  congr 1
  grind

theorem bendZ_add (a b c d e f g h t u : Int) : bendZ (a + t) (b + u) (c + t) (d + u) (e + t) (f + u) (g + t) (h + u) = bendZ a b c d e f g h := by
  unfold bendZ
  rw [show a + t - 2 * (c + t) + (e + t) = a - 2 * c + e by omega, show b + u - 2 * (d + u) + (f + u) = b - 2 * d + f by omega, show c + t - 2 * (e + t) + (g + t) = c - 2 * e + g by omega, show d + u - 2 * (f + u) + (h + u) = d - 2 * f + h by omega]

/-- A segment, moved; a dot, moved. -/
def mvS (x y : Int) (s : Sg) : Sg := ⟨s.k, s.a + 256 * x, s.b + 256 * y, s.c + 256 * x, s.d + 256 * y, s.e + 256 * x, s.f + 256 * y⟩
def mvD (x y : Int) (d : Int × Int) : Int × Int := (d.1 + x, d.2 + y)
def mvL (x y : Int) (t : LineSt) : LineSt := ⟨t.x + 256 * x, t.y + 256 * y, t.l.map (mvD x y)⟩

theorem piecesZ_mv (x y X Y : Int) (s : Sg) : piecesZ (X + 256 * x) (Y + 256 * y) (mvS x y s) = piecesZ X Y s := by
  unfold piecesZ
  simp only [mvS]
  rw [bendZ_add]

theorem lineStep_mv (x y : Int) (t : LineSt) (s : Sg) : lineStep (mvL x y t) (mvS x y s) = mvL x y (lineStep t s) := by
  unfold lineStep
  have e : (mvS x y s).k = s.k := rfl
  rw [e]
  split
  · simp only [mvL]
    rw [piecesZ_mv]
    have hp := piecesZ_le t.x t.y s
    have hc : curveDots (t.x + 256 * x) (t.y + 256 * y) (mvS x y s) (piecesZ t.x t.y s) = (curveDots t.x t.y s (piecesZ t.x t.y s)).map (mvD x y) := by
      unfold curveDots
      rw [piecesZ_mv, List.map_map]
      refine List.map_congr_left fun i _ => ?_
      simp only [Function.comp, mvD, mvS]
      rw [cubicZ_add _ _ _ _ _ _ _ (by omega), cubicZ_add _ _ _ _ _ _ _ (by omega)]
    rw [hc, List.map_append]
    rfl
  · simp only [mvL, List.map_append, List.map_cons, List.map_nil]
    have h1 : nearZ (mvS x y s).a 256 = nearZ s.a 256 + x := nearZ_add s.a 256 x (by omega)
    have h2 : nearZ (mvS x y s).b 256 = nearZ s.b 256 + y := nearZ_add s.b 256 y (by omega)
    rw [h1, h2]
    rfl

/-- The machine's states, the one of the path and the one of the path that is moved. -/
def Rmv (x y : Int) (t u : Mst) : Prop := u.bad = t.bad ∧ u.op = t.op ∧ u.ls = t.ls.map (List.map (mvD x y)) ∧ (t.op = true → u.cur = mvL x y t.cur)

theorem Rmv.step {x y : Int} {t u : Mst} (h : Rmv x y t u) (s : Sg) : Rmv x y (mstep t s) (mstep u (mvS x y s)) := by
  obtain ⟨bad, op, ls, cur⟩ := t
  obtain ⟨bad', op', ls', cur'⟩ := u
  obtain ⟨h1, h2, h3, h4⟩ := h
  dsimp only at h1 h2 h3 h4
  subst h1 h2 h3
  have e : (mvS x y s).k = s.k := rfl
  unfold mstep
  dsimp only
  rw [e]
  split
  · exact ⟨rfl, rfl, rfl, h4⟩
  · split
    · exact ⟨rfl, rfl, rfl, h4⟩
    · rename_i hb
      split
      · rename_i hk
        refine ⟨rfl, rfl, ?_, fun _ => ?_⟩
        · dsimp only
          split
          · rename_i ho; rw [h4 ho]; simp [mvL]
          · rfl
        · dsimp only
          unfold lineStep
          rw [e, if_neg (by omega), if_neg (by omega)]
          have h1 : nearZ (mvS x y s).a 256 = nearZ s.a 256 + x := nearZ_add s.a 256 x (by omega)
          have h2 : nearZ (mvS x y s).b 256 = nearZ s.b 256 + y := nearZ_add s.b 256 y (by omega)
          rw [h1, h2]
          rfl
      · rename_i hk
        have ho : op' = true := by
          cases op' with
          | true => rfl
          | false => exact absurd (Or.inr ⟨rfl, hk⟩) hb
        split
        · refine ⟨rfl, rfl, ?_, fun h => by cases h⟩
          dsimp only
          rw [h4 ho]; simp [mvL]
        · refine ⟨rfl, rfl, rfl, fun _ => ?_⟩
          dsimp only
          rw [h4 ho, lineStep_mv]

theorem Rmv.run {x y : Int} : ∀ (l : List Sg) {t u : Mst}, Rmv x y t u → Rmv x y (mrun t l) (mrun u (l.map (mvS x y)))
  | [], _, _, h => h
  | s :: l, _, _, h => Rmv.run l (h.step s)

theorem pathsOf_mv (x y : Int) (l : List Sg) : pathsOf (l.map (mvS x y)) = ((pathsOf l).1.map (List.map (mvD x y)), (pathsOf l).2) := by
  have h : Rmv x y (mach l) (mach (l.map (mvS x y))) := Rmv.run l ⟨rfl, rfl, rfl, fun h => by cases h⟩
  rw [pathsOf_mach, pathsOf_mach, List.length_map]
  split
  · rfl
  · obtain ⟨h1, h2, h3, h4⟩ := h
    rw [h1]
    split
    · rfl
    · dsimp only
      unfold mfin
      rw [h2]
      split
      · rename_i ho
        rw [h3, h4 ho]; simp [mvL]
      · rw [h3]

end Go.Proofs.Ytbhpfhggcdccjaa
