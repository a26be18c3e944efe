/- The contract of the statements' common end: the chapter's answers. -/
import Derived.Test.YtbhpfhggcdccjaaSeg
namespace Go.Proofs.Ytbhpfhggcdccjaa
open Go.RowKit Go.Proofs.WPlain

/-- Numbers lie in a block. -/
def NumsAt (W : World) (b : Nat) (vs : List Int) : Prop := b < W.heap.size ∧ ∀ (i : Nat) (v : Int), vs[i]? = some v → W.cell? ⟨b, i, none⟩ = some (.int .i64 v)

theorem cell_in_new (W : World) (cs : Array Value) (t : TypeId) (b i : Nat) (hb : b = W.heap.size) : (W.alloc (.cells cs t)).cell? ⟨b, i, none⟩ = cs[i]? := by
  subst hb
  have h := World.alloc_heap_new W (.cells cs t)
  unfold World.cell?
  simp only [h]
  rfl

theorem NumsAt.new {W : World} {cs : Array Value} {t : TypeId} {b : Nat} {vs : List Int} (hcs : cs.toList = vs.map (Value.int .i64)) (hb : b = W.heap.size) : NumsAt (W.alloc (.cells cs t)) b vs := by
  refine ⟨by simp; omega, fun i v hv => ?_⟩
  rw [cell_in_new _ _ _ _ _ hb, ← Array.getElem?_toList, hcs, List.getElem?_map, hv]; rfl
theorem NumsAt.below {W W' : World} {b : Nat} {vs : List Int} (h : NumsAt W b vs) (hb : Below W.heap.size W W') : NumsAt W' b vs :=
  ⟨Nat.lt_of_lt_of_le h.1 hb.size, fun i v hv => (hb.cell (p := ⟨b, i, none⟩) h.1).trans (h.2 i v hv)⟩
theorem NumsAt.alloc {W : World} {b : Nat} {vs : List Int} (h : NumsAt W b vs) (o : Obj) : NumsAt (W.alloc o) b vs := h.below (balloc (Below.refl _ _) o)
theorem NumsAt.drew {W : World} {b : Nat} {vs : List Int} (h : NumsAt W b vs) : NumsAt W.drew b vs := h

/-- A segment of two numbers. -/
theorem seg2_at (K a b x y : Int) (hx : a * 65536 = x) (hy : b * 65536 = y) (ha : -32768 ≤ a ∧ a ≤ 32767) (hb : -32768 ≤ b ∧ b ≤ 32767) (g : Nat) (w : World) (h : NumsAt w g [a, b]) :
    Calls Try.prog 9 #[.int .u8 K, .slice (some ⟨g, 0, none⟩) 2 2] w fun e w' =>
      e = .returned (.agg #[.int .u8 K, .int .i32 x, .int .i32 y, .int .i32 0, .int .i32 0, .int .i32 0, .int .i32 0]) ∧ Below w.heap.size w w' := by
  have := seg_any K (some ⟨g, 0, none⟩) 2 2 (fun i => ([a, b] : List Int).getD i 0) (by omega) (fun i => ?_) w (fun i hi => ⟨g, rfl, h.1, ?_⟩)
  · rw [← hx, ← hy]; exact this
  · match i with
    | 0 => exact ha
    | 1 => exact hb
    | _ + 2 => simp
  · match i, hi with
    | 0, _ => exact h.2 0 a rfl
    | 1, _ => exact h.2 1 b rfl

theorem seg6_at (K a b c d p q x y z t r s : Int) (hx : a * 65536 = x) (hy : b * 65536 = y) (hz : c * 65536 = z) (ht : d * 65536 = t) (hr : p * 65536 = r) (hs : q * 65536 = s)
    (ha : -32768 ≤ a ∧ a ≤ 32767) (hb : -32768 ≤ b ∧ b ≤ 32767) (hc : -32768 ≤ c ∧ c ≤ 32767) (hd : -32768 ≤ d ∧ d ≤ 32767) (hp : -32768 ≤ p ∧ p ≤ 32767) (hq : -32768 ≤ q ∧ q ≤ 32767) (g : Nat) (w : World) (h : NumsAt w g [a, b, c, d, p, q]) :
    Calls Try.prog 9 #[.int .u8 K, .slice (some ⟨g, 0, none⟩) 6 6] w fun e w' =>
      e = .returned (.agg #[.int .u8 K, .int .i32 x, .int .i32 y, .int .i32 z, .int .i32 t, .int .i32 r, .int .i32 s]) ∧ Below w.heap.size w w' := by
  have := seg_any K (some ⟨g, 0, none⟩) 6 6 (fun i => ([a, b, c, d, p, q] : List Int).getD i 0) (by omega) (fun i => ?_) w (fun i hi => ⟨g, rfl, h.1, ?_⟩)
  · rw [← hx, ← hy, ← hz, ← ht, ← hr, ← hs]; exact this
  · match i with
    | 0 => exact ha
    | 1 => exact hb
    | 2 => exact hc
    | 3 => exact hd
    | 4 => exact hp
    | 5 => exact hq
    | _ + 6 => simp
  · match i, hi with
    | 0, _ => exact h.2 0 a rfl
    | 1, _ => exact h.2 1 b rfl
    | 2, _ => exact h.2 2 c rfl
    | 3, _ => exact h.2 3 d rfl
    | 4, _ => exact h.2 4 p rfl
    | 5, _ => exact h.2 5 q rfl

theorem seg0_at (K : Int) (w : World) :
    Calls Try.prog 9 #[.int .u8 K, .slice none 0 0] w fun e w' =>
      e = .returned (.agg #[.int .u8 K, .int .i32 0, .int .i32 0, .int .i32 0, .int .i32 0, .int .i32 0, .int .i32 0]) ∧ Below w.heap.size w w' :=
  seg_any K none 0 0 (fun _ => 0) (by omega) (fun _ => by simp) w (fun i hi => by omega)

theorem vals_getElem : ∀ (l : List Sg) (i : Nat) (s : Sg), l[i]? = some s → ∀ (j : Nat) (v : Value), s.vals[j]? = some v → (l.flatMap Sg.vals)[i * 7 + j]? = some v
  | [], i, s, h, _, _, _ => by simp at h
  | u :: l, 0, s, h, j, v, hv => by
    simp at h; subst h
    have hj : j < u.vals.length := (List.getElem?_eq_some_iff.1 hv).1
    rw [List.flatMap_cons, List.getElem?_append_left (by omega), Nat.zero_mul, Nat.zero_add]; exact hv
  | u :: l, i + 1, s, h, j, v, hv => by
    have := vals_getElem l i s (by simpa using h) j v hv
    rw [List.flatMap_cons, List.getElem?_append_right (by show 7 ≤ _; omega)]
    have e : (i + 1) * 7 + j - u.vals.length = i * 7 + j := by show (i + 1) * 7 + j - 7 = _; omega
    rw [e]; exact this

theorem SegsAt.new {W : World} {cs : Array Value} {t : TypeId} {b n₀ : Nat} {l : List Sg} (hcs : cs.toList = l.flatMap Sg.vals) (hb : b = W.heap.size) (hn : b < n₀) : SegsAt (W.alloc (.cells cs t)) n₀ (some ⟨b, 0, none⟩) l := by
  refine .inr ⟨b, 0, rfl, hn, fun i s hi j v hv => ?_⟩
  rw [cell_in_new _ _ _ _ _ hb, ← Array.getElem?_toList, hcs, Nat.zero_add]
  exact vals_getElem l i s hi j v hv

/-- The lines of a path that has just been laid. -/
theorem of_at (l : List Sg) (n : Nat) (hn : l.length = n) (hl : n ≤ 1000) (hok : ∀ s ∈ l, s.ok) (L : List (List (Int × Int))) (E : Int) (hp : pathsOf l = (L, E)) (a : Option Addr) (w : World) (hs : SegsAt w w.heap.size a l) :
    Calls Try.prog 7 #[.slice a n n] w fun e w' => (∃ v, e = .returned (.tuple #[v, .int .i64 E]) ∧ LinesRd w' v L) ∧ Below w.heap.size w w' := by
  have h := ofPath_any a n l w (by omega) (by omega) (by omega) hok hs
  rw [hn, hp] at h
  exact h.mono fun e w' ⟨⟨v, he, hL⟩, hb⟩ => ⟨⟨v, he, hL.rd⟩, hb⟩

theorem LinesRd.new {W : World} {cs : Array Value} {t t' : TypeId} {b b' n c : Nat} {L : List (Int × Int)} (hcs : cs.toList = dotVals L) (hn : L.length = n) (hb : b = W.heap.size) (hb' : b' = W.heap.size + 1) :
    LinesRd ((W.alloc (.cells cs t)).alloc (.cells #[.slice (some ⟨b, 0, none⟩) n c] t')) (.slice (some ⟨b', 0, none⟩) 1 1) [L] := by
  refine .inr ⟨b', 1, rfl, by simp; omega, fun j d hd => ?_⟩
  match j, hd with
  | 0, hd =>
    simp at hd; subst hd
    refine ⟨.slice (some ⟨b, 0, none⟩) n c, ?_, ?_⟩
    · rw [cell_in_new _ _ _ _ _ (by simp; omega)]; rfl
    · refine DotsRd.below (W := W.alloc (.cells cs t)) (.inr ⟨b, c, by rw [hn], by simp; omega, fun j u hu => ?_⟩) (balloc (Below.refl _ _) _)
      rw [cell_in_new _ _ _ _ _ hb, ← Array.getElem?_toList, hcs]; exact hu

def p0 : List Sg := [⟨0, 0, 0, 0, 0, 0, 0⟩, ⟨1, 65536, 0, 0, 0, 0, 0⟩, ⟨1, 65536, 65536, 0, 0, 0, 0⟩, ⟨3, 0, 0, 0, 0, 0, 0⟩]
def p1 : List Sg := [⟨0, 0, 0, 0, 0, 0, 0⟩, ⟨2, 0, 65536, 65536, 65536, 65536, 0⟩]
def p3 : List Sg := [⟨1, 65536, 65536, 0, 0, 0, 0⟩]
def p4 : List Sg := [⟨0, 0, 0, 0, 0, 0, 0⟩, ⟨3, 0, 0, 0, 0, 0, 0⟩, ⟨1, 65536, 65536, 0, 0, 0, 0⟩]
def p5 : List Sg := [⟨0, 0, 0, 0, 0, 0, 0⟩, ⟨4, 0, 0, 0, 0, 0, 0⟩]
def l0 : List (List (Int × Int)) := [[(0, 0), (256, 0), (256, 256)]]
def l1 : List (List (Int × Int)) := [[(0, 0), (40, 144), (128, 192), (216, 144), (256, 0)]]
theorem okSg (k a b c d e f : Int) (h : (0 ≤ k ∧ k ≤ 255) ∧ (-2147483648 ≤ a ∧ a ≤ 2147483647) ∧ (-2147483648 ≤ b ∧ b ≤ 2147483647) ∧ (-2147483648 ≤ c ∧ c ≤ 2147483647) ∧ (-2147483648 ≤ d ∧ d ≤ 2147483647) ∧ (-2147483648 ≤ e ∧ e ≤ 2147483647) ∧ (-2147483648 ≤ f ∧ f ≤ 2147483647)) : (⟨k, a, b, c, d, e, f⟩ : Sg).ok := h
theorem ok_p0 : ∀ s ∈ p0, s.ok := by intro s hs; simp only [p0, List.mem_cons, List.not_mem_nil, or_false] at hs; rcases hs with rfl | rfl | rfl | rfl <;> (refine okSg _ _ _ _ _ _ _ ?_; omega)
theorem ok_p1 : ∀ s ∈ p1, s.ok := by intro s hs; simp only [p1, List.mem_cons, List.not_mem_nil, or_false] at hs; rcases hs with rfl | rfl <;> (refine okSg _ _ _ _ _ _ _ ?_; omega)
theorem ok_p3 : ∀ s ∈ p3, s.ok := by intro s hs; simp only [p3, List.mem_cons, List.not_mem_nil, or_false] at hs; rcases hs with rfl; (refine okSg _ _ _ _ _ _ _ ?_; omega)
theorem ok_p4 : ∀ s ∈ p4, s.ok := by intro s hs; simp only [p4, List.mem_cons, List.not_mem_nil, or_false] at hs; rcases hs with rfl | rfl | rfl <;> (refine okSg _ _ _ _ _ _ _ ?_; omega)
theorem ok_p5 : ∀ s ∈ p5, s.ok := by intro s hs; simp only [p5, List.mem_cons, List.not_mem_nil, or_false] at hs; rcases hs with rfl | rfl <;> (refine okSg _ _ _ _ _ _ _ ?_; omega)
theorem len_p0 : p0.length = 4 := rfl
theorem len_p1 : p1.length = 2 := rfl
theorem len_p3 : p3.length = 1 := rfl
theorem len_p4 : p4.length = 3 := rfl
theorem len_p5 : p5.length = 2 := rfl
theorem of_p0 : pathsOf p0 = (l0, 0) := by decide +kernel
theorem of_p1 : pathsOf p1 = (l1, 0) := by decide +kernel
theorem of_nil : pathsOf [] = ([], 0) := by decide +kernel
theorem SegsAt.nil (W : World) (n₀ : Nat) (a : Option Addr) : SegsAt W n₀ a [] := .inl rfl
theorem ok_nil : ∀ s ∈ ([] : List Sg), s.ok := by simp
theorem len_nil : ([] : List Sg).length = 0 := rfl
theorem of_p3 : pathsOf p3 = ([], 4) := by decide +kernel
theorem of_p4 : pathsOf p4 = ([], 4) := by decide +kernel
theorem of_p5 : pathsOf p5 = ([], 4) := by decide +kernel

theorem same_lines (l : List (List (Int × Int))) (h : l.length ≤ 1000000 ∧ ∀ d ∈ l, d.length ≤ 1000000) (va vb : Value) (w : World) (ha : LinesRd w va l) (hb : LinesRd w vb l) :
    Calls Try.prog 8 #[va, vb] w fun e w' => e = .returned (.bool true) ∧ Below w.heap.size w w' := by
  have := sameLines_any va vb l l w h.1 h.2 ha hb
  simpa using this
theorem small_l0 : l0.length ≤ 1000000 ∧ ∀ d ∈ l0, d.length ≤ 1000000 := by simp [l0]
theorem small_l1 : l1.length ≤ 1000000 ∧ ∀ d ∈ l1, d.length ≤ 1000000 := by simp [l1]

end Go.Proofs.Ytbhpfhggcdccjaa
