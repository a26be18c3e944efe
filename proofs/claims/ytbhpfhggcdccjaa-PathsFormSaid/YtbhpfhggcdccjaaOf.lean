/- The contract of the function Of of the package paths of the program: the closed lines of a path. -/
import Derived.Test.YtbhpfhggcdccjaaSubs
import Derived.Maps.OwnIn
namespace Go.Proofs.Ytbhpfhggcdccjaa
open Go.RowKit Go.Proofs.WPlain

attribute [local go_sem] Oper.semAt_some

/-- A sub-path is in order: it begins with a move, and there is no kind that is none. -/
def subOk : List Sg → Bool
  | [] => false
  | s :: r => s.k == 0 && decide (firstAt badB (s :: r) < 0)
/-- The closed lines of a path, and the error. -/
def pathsOf (l : List Sg) : List (List (Int × Int)) × Int :=
  if 256 < l.length then ([], 3) else if (subsL l).all subOk then ((subsL l).map lineDots, 0) else ([], 4)

/-- All cells but one block's lie as they lay. -/
def Kept (Bx : Nat) (A B : World) : Prop := A.heap.size ≤ B.heap.size ∧ ∀ k o, A.heap[k]? = some o → o.isCells = true → k ≠ Bx → B.heap[k]? = some o
theorem Kept.of_step {Bx : Nat} {A B : World} (h : StepOf Bx A B) : Kept Bx A B := ⟨h.size, fun _ _ hk _ hne => (h.heap (Array.getElem?_eq_some_iff.1 hk).1 hne).trans hk⟩
theorem Kept.putObj {Bx : Nat} {A : World} {l : Nat} {o : Obj} (o' : Obj) (hl : A.heap[l]? = some o) (ho : o.isCells = false) : Kept Bx A (A.putObj l o') :=
  ⟨by simp [World.putObj], fun k u hk hu _ => (World.putObj_heap_other (fun e => by subst e; rw [hk] at hl; cases hl; rw [ho] at hu; cases hu)).trans hk⟩
theorem Kept.box {Bx : Nat} {A B : World} (h : Kept Bx A B) {b : Nat} {t : TypeId} {v : Value} (hb : Boxed A b t v) (hne : b ≠ Bx) : Boxed B b t v := h.2 _ _ hb rfl hne
theorem Kept.row {Bx : Nat} {A B : World} (h : Kept Bx A B) {base : Nat} {e : TypeId} {size : Nat} {v : Value} {n : Nat} {xs : List Value} (hr : A.ownsRow base e size v n xs) (hlt : Bx < base) : B.ownsRow base e size v n xs := by
  obtain ⟨hl, h1 | ⟨g, cap, cur, h1, h2, h3, h4⟩⟩ := hr
  · exact ⟨hl, .inl h1⟩
  · exact ⟨hl, .inr ⟨g, cap, cur, h1, h2, h.2 _ _ h3 rfl (by omega), h4⟩⟩

theorem cells_of_cell? {W : World} {g j : Nat} {u : Value} (h : W.cell? ⟨g, j, none⟩ = some u) : ∃ o, W.heap[g]? = some o ∧ o.isCells = true := by
  unfold World.cell? at h
  split at h
  · rename_i e; exact ⟨_, e, rfl⟩
  all_goals cases h

/-- A slice whose dots can be read, in blocks from a mark on; no room behind; not in block x. -/
def DotsOff (W : World) (lo : Nat) (x : Option Nat) (v : Value) (l : List (Int × Int)) : Prop :=
  (l = [] ∧ ∃ a, v = .slice a 0 0) ∨ ∃ g : Nat, v = .slice (some ⟨g, 0, none⟩) l.length l.length ∧ lo ≤ g ∧ g < W.heap.size ∧ some g ≠ x ∧ ∃ o, W.heap[g]? = some o ∧ o.isCells = true ∧ ∀ (j : Nat) (u : Value), (dotVals l)[j]? = some u → W.cell? ⟨g, j, none⟩ = some u

theorem DotsAt.off {W : World} {lo hi : Nat} {v : Value} {l : List (Int × Int)} (h : DotsAt W lo hi v l) (x : Option Nat) (hx : ∀ k, x = some k → k < lo) (hh : hi ≤ W.heap.size) : DotsOff W lo x v l := by
  rcases h with h | ⟨g, hv, h1, h2, h3⟩
  · exact .inl h
  · cases l with
    | nil => exact .inl ⟨rfl, _, hv⟩
    | cons d l =>
      obtain ⟨o, ho, hc⟩ := cells_of_cell? (h3 0 _ rfl)
      exact .inr ⟨g, hv, h1, by omega, fun e => by have := hx g e.symm; omega, o, ho, hc, h3⟩

theorem DotsOff.move {A B : World} {lo lo' : Nat} {x y : Option Nat} {v : Value} {l : List (Int × Int)} (h : DotsOff A lo x v l) (hlo : lo' ≤ lo) (hsz : A.heap.size ≤ B.heap.size) (hb : ∀ g o, lo ≤ g → A.heap[g]? = some o → o.isCells = true → some g ≠ x → B.heap[g]? = some o ∧ some g ≠ y) : DotsOff B lo' y v l := by
  rcases h with h | ⟨g, hv, h1, h2, h3, o, ho, hc, h4⟩
  · exact .inl h
  · obtain ⟨e, hy⟩ := hb g o h1 ho hc h3
    refine .inr ⟨g, hv, by omega, by omega, hy, o, e, hc, fun j u hu => ?_⟩
    exact (World.cell?_of_block (w := A) (w' := B) (a := ⟨g, j, none⟩) (e.trans ho.symm)).trans (h4 j u hu)

/-- The lines that a slice holds which owns its row. -/
def OfRow (W : World) (n₀ : Nat) (v : Value) (ls : List (List (Int × Int))) (vs : List Value) : Prop :=
  W.ownsRow n₀ 34 1 v ls.length vs ∧ ∀ (j : Nat) (d : List (Int × Int)), ls[j]? = some d → ∃ u, vs[j]? = some u ∧ DotsOff W n₀ v.ownBlock u d

theorem OfRow.kept {A B : World} {Bx n₀ : Nat} {v : Value} {ls : List (List (Int × Int))} {vs : List Value} (h : OfRow A n₀ v ls vs) (k : Kept Bx A B) (hlt : Bx < n₀) : OfRow B n₀ v ls vs :=
  ⟨k.row h.1 hlt, fun j d hd => by
    obtain ⟨u, hu, ho⟩ := h.2 j d hd
    exact ⟨u, hu, ho.move (Nat.le_refl _) k.1 (fun g o hg hh hc hx => ⟨k.2 g o hh hc (by omega), hx⟩)⟩⟩

/-- Lines that can be read; no room behind. -/
def LinesAt (W : World) (lo : Nat) (v : Value) (ls : List (List (Int × Int))) : Prop :=
  (ls = [] ∧ ∃ a, v = .slice a 0 0) ∨ ∃ g : Nat, v = .slice (some ⟨g, 0, none⟩) ls.length ls.length ∧ lo ≤ g ∧ g < W.heap.size ∧ ∀ (j : Nat) (d : List (Int × Int)), ls[j]? = some d → ∃ u, W.cell? ⟨g, j, none⟩ = some u ∧ DotsAt W lo W.heap.size u d

theorem DotsAt.form {W : World} {lo hi : Nat} {v : Value} {l : List (Int × Int)} (h : DotsAt W lo hi v l) : ∃ a n c, v = .slice a n c := by
  rcases h with ⟨_, a, h⟩ | ⟨g, h, _⟩
  · exact ⟨_, _, _, h⟩
  · exact ⟨_, _, _, h⟩
theorem row_form {W : World} {base : Nat} {e : TypeId} {size : Nat} {v : Value} {n : Nat} {xs : List Value} (h : W.ownsRow base e size v n xs) : ∃ a n c, v = .slice a n c := by
  rcases h.2 with ⟨h, _⟩ | ⟨g, cap, cur, h, _⟩
  · exact ⟨_, _, _, h⟩
  · exact ⟨_, _, _, h⟩

theorem KeepsFrom.below {X : Nat} {A B : World} (h : Below A.heap.size A B) : KeepsFrom X A B := ⟨h.size, fun k _ _ hk _ => (h.block k (Array.getElem?_eq_some_iff.1 hk).1).trans hk⟩
theorem KeepsFrom.set (X : Nat) (A : World) (p : Addr) (v : Value) : KeepsFrom X A (A.setCell p v) := (KeepsOthers.setCell A p v).from X

theorem row_mono {W : World} {base b' : Nat} {e : TypeId} {size : Nat} {v : Value} {n : Nat} {xs : List Value} (h : W.ownsRow base e size v n xs) (hb : b' ≤ base) : W.ownsRow b' e size v n xs := by
  obtain ⟨hl, h1 | ⟨g, cap, cur, h1, h2, h3, h4⟩⟩ := h
  · exact ⟨hl, .inl h1⟩
  · exact ⟨hl, .inr ⟨g, cap, cur, h1, by omega, h3, h4⟩⟩

/-- One line more. -/
theorem OfRow.push {w1 w2 w3 : World} {n₀ B : Nat} {v u v' : Value} {ls : List (List (Int × Int))} {d : List (Int × Int)} {vs : List Value} {ob : Obj}
    (h : OfRow w1 n₀ v ls vs) (hn : n₀ ≤ w1.heap.size) (hb : Below w1.heap.size w1 w2) (hu : DotsAt w2 w1.heap.size w2.heap.size u d)
    (hown : w3.ownsRow n₀ 34 1 v' (ls.length + 1) (vs ++ [u])) (hg : (w2.alloc ob).grownBy w3 v.ownBlock) (hat : v'.ownBlock = v.ownBlock ∨ v'.ownBlock = some (w2.alloc ob).heap.size) (hB : B < n₀) :
    OfRow (w3.setCell ⟨B, 0, none⟩ v') n₀ v' (ls ++ [d]) (vs ++ [u]) := by
  have hvl : vs.length = ls.length := by have := h.1.1; omega
  have hz1 := hb.size
  have hz2 := hg.size
  simp only [World.size_alloc] at hz2 hat
  have hstep : ∀ (g : Nat) (o : Obj), n₀ ≤ g → w2.heap[g]? = some o → some g ≠ v.ownBlock → (w3.setCell ⟨B, 0, none⟩ v').heap[g]? = some o ∧ some g ≠ v'.ownBlock := by
    intro g o hng hgo hne
    have hlt : g < w2.heap.size := (Array.getElem?_eq_some_iff.1 hgo).1
    refine ⟨?_, ?_⟩
    · rw [Below.heap_setCell _ _ _ _ (show g ≠ B by omega)]
      exact (hg.block g (by simp; omega) hne).trans ((Below.heap_alloc _ _ g hlt).trans hgo)
    · rcases hat with e | e
      · rw [e]; exact hne
      · rw [e]; intro e'; cases e'; omega
  refine ⟨?_, fun j d' hd => ?_⟩
  · rw [List.length_append]
    exact ownsRow_setCell_below hown hB _
  · rw [List.getElem?_append] at hd
    split at hd
    · rename_i hlt
      obtain ⟨u', hu', ho⟩ := h.2 j d' hd
      refine ⟨u', by rw [List.getElem?_append_left (by omega)]; exact hu', ho.move (Nat.le_refl _) (by simp; omega) fun g o hng hgo _ hne => ?_⟩
      exact hstep g o hng ((hb.block g (Array.getElem?_eq_some_iff.1 hgo).1).trans hgo) hne
    · rename_i hge
      obtain rfl : j = ls.length := by
        have : j - ls.length < 1 := by
          have := (List.getElem?_eq_some_iff.1 hd).1
          simpa using this
        omega
      simp at hd
      subst hd
      refine ⟨u, by rw [← hvl]; simp, (hu.off v.ownBlock (fun k hk => ownBlock_lt h.1 k hk) (Nat.le_refl _)).move hn (by simp; omega) fun g o hng hgo _ hne => ?_⟩
      exact hstep g o (by omega) hgo hne

/-- The append under another name: so that the walk leaves it whole, for its law. -/
def appendV (ats : Array TypeId) (ty : TypeId) (args : Array Value) : Sem Value := Builtin.append_ ats ty args
@[local go_sem ↓] theorem append_veil (ats : Array TypeId) (ty : TypeId) (args : Array Value) : Builtin.append_ ats ty args = appendV ats ty args := rfl

theorem Try.info34 : (Try.prog.info? 34).map (fun i => (i.zero, i.size, i.bytes)) = some (some (.slice none 0 0), 1, 24) := by kernel_rfl

theorem clipLines_nil (w : World) : Calls Try.prog 14 #[.slice none 0 0] w fun e w' => e = .returned (.slice none 0 0) ∧ w' = w := by
  go_enter Try.func14, Try.ntmps14
  go_wp2
  go_ret
  exact ⟨rfl, rfl⟩
theorem clipLines (g len cap : Nat) (w : World) (h : len ≤ cap) (_hcm : cap ≤ 2 ^ 63 - 1) : Calls Try.prog 14 #[.slice (some ⟨g, 0, none⟩) len cap] w fun e w' => e = .returned (.slice (some ⟨g, 0, none⟩) len len) ∧ w' = w := by
  go_enter Try.func14, Try.ntmps14
  go_wp2
  go_ret
  exact ⟨rfl, rfl⟩

set_option maxHeartbeats 8000000 in
theorem ofPath_any (a : Option Addr) (cap : Nat) (l : List Sg) (w : World) (hl : l.length ≤ 1000000) (hc : l.length ≤ cap) (hcm : cap ≤ 9223372036854775807) (hok : ∀ s ∈ l, s.ok) (hs : SegsAt w w.heap.size a l) :
    Calls Try.prog 7 #[.slice a l.length cap] w fun e w' => (∃ v, e = .returned (.tuple #[v, .int .i64 (pathsOf l).2]) ∧ LinesAt w' w.heap.size v (pathsOf l).1) ∧ Below w.heap.size w w' := by
  obtain ⟨i0, hi, iz0, iz1, iz2⟩ := info_parts Try.info34
  refine (callsIn_wide (n := 8)).1 ?_
  refine callsIn_of_wp_marks Try.func7 rfl trivial ?_ rfl
  simp only [Try.ntmps7, List.size_toArray, List.length_cons, List.length_nil, Nat.reduceAdd, Nat.reduceSub, Array.replicate_succ, Array.replicate_zero, List.push_toArray, List.append_toArray, List.nil_append, List.cons_append]
  by_cases h256 : 256 < l.length
  · have e1 : (pathsOf l).1 = [] := by simp [pathsOf, h256]
    have e2 : (pathsOf l).2 = 3 := by simp [pathsOf, h256]
    gi_wp2
    refine ⟨.tuple #[.slice none 0 0, .int .i64 3], by simp [results, Try.f7, go_sem], ⟨.slice none 0 0, by rw [e2], .inl ⟨e1, none, rfl⟩⟩, by ((repeat (first | (with_reducible refine balloc ?_ _) | (with_reducible refine Below.drew ?_) | (with_reducible refine below_drewN ?_ _) | ((with_reducible refine Below.setCell ?_ ?_ _); rotate_left; focus (first | omega | (simp; done) | (simp; omega))))); with_reducible exact Below.refl _ _)⟩
  · have h256' : ((l.length : Int) > 256) = False := by simp; omega
    have hIn := fun n w => subs_in n a l.length cap w
    have HOK := Lib.hid hok
    have HSG := Lib.hid hs
    clear hok hs
    gi_wp2_with (refine ⟨trivial, ?_⟩; gi_at_call 10; refine (hIn _ _).mono ?_; rintro e w' ⟨rfl, rfl⟩)
    obtain ⟨W0, hW0⟩ : ∃ W0, (((w.alloc (.cells #[.slice none 0 0] 30)).alloc (.cells #[.int .i64 0] 31)).alloc (.cells #[.slice none 0 0] 30)).alloc (.cells #[.slice a l.length cap] 22) = W0 := ⟨_, rfl⟩
    have b0 : Boxed W0 w.heap.size 30 (.slice none 0 0) := hW0 ▸ ((((Boxed.new w _ _).alloc _).alloc _).alloc _)
    have b1 : Boxed W0 (w.heap.size + 1) 31 (.int .i64 0) := by
      have := ((Boxed.new (w.alloc (.cells #[.slice none 0 0] 30)) 31 (.int .i64 0)).alloc (.cells #[.slice none 0 0] 30)).alloc (.cells #[.slice a l.length cap] 22)
      rw [hW0] at this; simpa using this
    have b2 : Boxed W0 (w.heap.size + 1 + 1) 30 (.slice none 0 0) := by
      have := (Boxed.new ((w.alloc (.cells #[.slice none 0 0] 30)).alloc (.cells #[.int .i64 0] 31)) 30 (.slice none 0 0)).alloc (.cells #[.slice a l.length cap] 22)
      rw [hW0] at this; simpa using this
    have b3 : Boxed W0 (w.heap.size + 1 + 1 + 1) 22 (.slice a l.length cap) := by
      have := Boxed.new (((w.alloc (.cells #[.slice none 0 0] 30)).alloc (.cells #[.int .i64 0] 31)).alloc (.cells #[.slice none 0 0] 30)) 22 (.slice a l.length cap)
      rw [hW0] at this; simpa using this
    have hz0 : W0.heap.size = w.heap.size + 4 := by rw [← hW0]; simp
    have hB0 : Below w.heap.size w W0 := by rw [← hW0]; ((repeat (first | (with_reducible refine balloc ?_ _) | (with_reducible refine Below.drew ?_) | (with_reducible refine below_drewN ?_ _) | ((with_reducible refine Below.setCell ?_ ?_ _); rotate_left; focus (first | omega | (simp; done) | (simp; omega))))); with_reducible exact Below.refl _ _)
    rw [hW0]
    clear hW0 hIn
    obtain ⟨n₀, hn₀⟩ : ∃ n₀, w.heap.size = n₀ := ⟨_, rfl⟩
    rw [hn₀] at HSG b0 b1 b2 b3 hz0 hB0 ⊢
    refine rangeOf (α := { x : Sub // x.good w n₀ }) rfl (by omega) (gf := 16) (lb := #[.pointer (some ⟨n₀ + 1 + 1 + 1, 0, none⟩)]) rfl trivial (enters_of Try.func16 (by kernel_rfl) rfl)
      (encs := fun x => #[x.1.val]) (Bx := n₀ + 1 + 1 + 1) (Kp := RoundKeeps n₀ (n₀ + 1 + 1 + 1)) (S := fun xs => xs.map (fun x => x.1.l) = subsL l) (Sp := fun pre => pre.map (fun x => x.1.l) <+: subsL l) (N := l.length)
      ?seq (by omega) (fun h k => h.trans k) ?kb (fun _ => rfl)
      (fun pre W => ∃ v vs, Boxed W (n₀ + 1 + 1) 30 v ∧ Hid (OfRow W (n₀ + 4) v (pre.map fun x => lineDots x.1.l) vs) ∧ Boxed W n₀ 30 (.slice none 0 0) ∧ Boxed W (n₀ + 1) 31 (.int .i64 0) ∧ Hid (∀ x ∈ pre, subOk x.1.l = true) ∧ Hid (Below n₀ w W) ∧ n₀ + 4 ≤ W.heap.size)
      (fun c pre W => c = .ret ∧ Boxed W n₀ 30 (.slice none 0 0) ∧ Boxed W (n₀ + 1) 31 (.int .i64 4) ∧ Hid (∃ x ∈ pre, subOk x.1.l = false) ∧ Hid (Below n₀ w W))
      ?holds ?holdsx ?h0
      (fun x => { tmps := #[.slice a l.length cap, undef, .pointer (some ⟨n₀, 0, none⟩), .pointer (some ⟨n₀ + 1, 0, none⟩), .pointer (some ⟨n₀ + 1 + 1, 0, none⟩), x.1.val, .slice a l.length cap, .int .i64 l.length, .bool false, .slice a l.length cap, .func (.func 16) #[] #[.pointer (some ⟨n₀ + 1 + 1 + 1, 0, none⟩)], x.1.val, undef, undef, undef, undef, undef, undef, undef, undef, undef, undef, undef, undef, undef, undef, undef, undef], defers := [] })
      ?assign ?body ?done ?stop
    case seq =>
      intro lq J Jx W hW hJ _ hY h0
      exact subs1_in 7 (by omega) lq (n₀ + 1 + 1 + 1) n₀ w a cap l hl HOK.out HSG.out hc hcm J Jx hJ hY W (by have := hW.size; omega) (by omega) (hB0.trans (hW.mono (by omega))) ((hW.block _ (by omega)).trans b3) h0
    case kb =>
      intro W lq o o' h1 h2 h3
      have hlt := (Array.getElem?_eq_some_iff.1 h2).1
      exact ⟨(Below.refl n₀ W).grown (grownBy_putObj' W lq o') (by omega) (fun k e => by cases e; omega), fun v hv => (World.putObj_heap_other (by omega)).trans hv⟩
    case holds =>
      refine ⟨fun pre A A' h hs => ?_, fun pre A lq o o' h h1 h2 h3 => ?_⟩
      · obtain ⟨v, vs, q2, hrow, q0, q1, hall, hB, hn⟩ := h
        have k := Kept.of_step hs
        exact ⟨v, vs, k.box q2 (by omega), Lib.hid (hrow.out.kept k (by omega)), k.box q0 (by omega), k.box q1 (by omega), hall, Lib.hid (hB.out.grown hs (by omega) (fun k e => by cases e; omega)), Nat.le_trans hn k.1⟩
      · obtain ⟨v, vs, q2, hrow, q0, q1, hall, hB, hn⟩ := h
        have k : Kept (n₀ + 1 + 1 + 1) A (A.putObj lq o') := Kept.putObj o' h2 h3
        exact ⟨v, vs, k.box q2 (by omega), Lib.hid (hrow.out.kept k (by omega)), k.box q0 (by omega), k.box q1 (by omega), hall, Lib.hid (hB.out.grown (grownBy_putObj' A lq o') (by omega) (fun k e => by cases e; omega)), Nat.le_trans hn k.1⟩
    case holdsx =>
      refine fun c => ⟨fun pre A A' h hs => ?_, fun pre A lq o o' h h1 h2 h3 => ?_⟩
      · obtain ⟨hc, q0, q1, hall, hB⟩ := h
        have k := Kept.of_step hs
        have := hB.out.size
        exact ⟨hc, k.box q0 (by omega), k.box q1 (by omega), hall, Lib.hid (hB.out.grown hs (by omega) (fun k e => by cases e; omega))⟩
      · obtain ⟨hc, q0, q1, hall, hB⟩ := h
        have k : Kept (n₀ + 1 + 1 + 1) A (A.putObj lq o') := Kept.putObj o' h2 h3
        have := hB.out.size
        exact ⟨hc, k.box q0 (by omega), k.box q1 (by omega), hall, Lib.hid (hB.out.grown (grownBy_putObj' A lq o') (by omega) (fun k e => by cases e; omega))⟩
    case h0 => exact ⟨.slice none 0 0, [], b2, ⟨World.ownsRow_nil _ _ _ _, fun j d h => by simp at h⟩, b0, b1, Lib.hid (by simp), hB0, by omega⟩
    case assign =>
      intro lp x W K hK
      gi_wp2
      exact hK
    case body => 
      rintro lp pre x W ⟨v, vs, q2, hrow, q0, q1, hall, hBW, hn4⟩ hlen
      obtain ⟨va, vn, vc, rfl⟩ := row_form hrow.out.1
      obtain ⟨⟨b, off, cp, ls⟩, hxe⟩ : ∃ y, x.1 = y := ⟨_, rfl⟩
      obtain ⟨hsg, hoks, hne, hlm⟩ : SegsAt w n₀ (some ⟨b, off, none⟩) ls ∧ (∀ s ∈ ls, s.ok) ∧ ls ≠ [] ∧ ls.length ≤ 1000000 := by
        have := x.2; rw [hxe] at this; exact this
      cases ls with
      | nil => exact absurd rfl hne
      | cons s r =>
        clear hne
        have hsW := hsg.below hBW.out
        have hkc : W.cell? ⟨b, off, none⟩ = some (.int .u8 s.k) := by
          rcases hsW with h | ⟨b', off', ha, _, hcs'⟩
          · cases h
          · cases ha; exact hcs' 0 s rfl 0 _ rfl
        have HSW : Hid (SegsAt W W.heap.size (some ⟨b, off, none⟩) (s :: r)) := hsW.mono (by omega)
        have CB := containsBad_any (some ⟨b, off, none⟩) cp (s :: r) W hlm HSW.out
        obtain ⟨m, hm⟩ : ∃ m : Nat, (s :: r).length = m := ⟨_, rfl⟩
        have hm0 : 0 < m := by rw [← hm]; simp
        have ev : x.1.val = .slice (some ⟨b, off, none⟩) m cp := by rw [← hm, hxe]; rfl
        have HXE : Hid (x.1.l = s :: r) := by
          have h : x.1.l = s :: r := by rw [hxe]
          exact h
        have c0 := q0.cell
        have f0 := q0.frozen
        have c1 := q1.cell
        have f1 := q1.frozen
        have c2 := q2.cell
        have f2 := q2.frozen
        rw [ev]
        rw [hm] at CB hlm
        have HM := Lib.hid hm
        have HOKS := Lib.hid hoks
        clear ev hm hsW hsg hoks hxe
        have hz : W.heap.size ≤ W.heap.size := Nat.le_refl _
        by_cases hk0 : s.k = 0
        · rw [hk0] at hkc
          obtain ⟨B, hB⟩ : ∃ B, decide (0 ≤ firstAt badB (s :: r)) = B := ⟨_, rfl⟩
          rw [hB] at CB
          have HSO : Hid (subOk (s :: r) = !B) := by
            have h : subOk (s :: r) = !B := by
              rw [← hB]; show (s.k == 0 && decide (firstAt badB (s :: r) < 0)) = _
              rw [hk0]
              by_cases h : 0 ≤ firstAt badB (s :: r)
              · have h' : ¬ firstAt badB (s :: r) < 0 := by omega
                rw [decide_eq_true h, decide_eq_false h']; rfl
              · have h' : firstAt badB (s :: r) < 0 := by omega
                rw [decide_eq_false h, decide_eq_true h']; rfl
            exact h
          clear hB hk0
          cases B with
          | true =>
            gi_wp2_with (refine ⟨trivial, ?_⟩; gi_at_call 11; refine (CallsIn.inRound lp (callsIn_wide.2 CB)).mono ?_; rintro e w1 ⟨rfl, hb⟩; have p0 : Boxed w1 n₀ _ _ := (hb.block n₀ (by omega)).trans q0; have p1 : Boxed w1 (n₀ + 1) _ _ := (hb.block (n₀ + 1) (by omega)).trans q1; have hBb := Lib.hid hb; have d0 := p0.cell; have d1 := p1.cell; have g0 := p0.frozen; have g1 := p1.frozen; clear hb)
            refine ⟨(KeepsFrom.below hBb.out).trans ((KeepsFrom.set _ _ _ _).trans (KeepsFrom.set _ _ _ _)), rfl, (p0.set _).other (by omega) _, ?_, ?_, ?_⟩
            · exact (p1.other (by omega) _).set _
            · exact Lib.hid ⟨x, by simp, by rw [HXE.out, HSO.out]; rfl⟩
            · exact Lib.hid (((hBW.out.trans (hBb.out.mono (by omega))).setCell (p := ⟨n₀, 0, none⟩) (Nat.le_refl _) _).setCell (p := ⟨n₀ + 1, 0, none⟩) (Nat.le_succ _) _)
          | false =>
            have HL1 : Hid ((pre.map fun x => lineDots x.1.l).length + 1 ≤ maxLen) := by
              have h : (pre.map fun x => lineDots x.1.l).length + 1 ≤ maxLen := by rw [List.length_map]; unfold maxLen; omega
              exact h
            have HL2 : Hid (((pre.map fun x => lineDots x.1.l).length + 1) * 24 ≤ 140737488355328) := by
              have h : ((pre.map fun x => lineDots x.1.l).length + 1) * 24 ≤ 140737488355328 := by rw [List.length_map]; omega
              exact h
            gi_wp2_with (first
              | (refine ⟨trivial, ?_⟩; gi_at_call 11; (with_reducible refine (CallsIn.inRound lp (callsIn_wide.2 CB)).mono ?_); rintro e w1 ⟨rfl, hb⟩; have p0 : Boxed w1 n₀ _ _ := (hb.block n₀ (by omega)).trans q0; have p1 : Boxed w1 (n₀ + 1) _ _ := (hb.block (n₀ + 1) (by omega)).trans q1; have p2 : Boxed w1 (n₀ + 1 + 1) _ _ := (hb.block (n₀ + 1 + 1) (by omega)).trans q2; have hBb := Lib.hid hb; have d2 := p2.cell; have g2 := p2.frozen; have LC := line_any (some ⟨b, off, none⟩) cp (s :: r) w1.drew (by rw [HM.out]; exact hlm) HOKS.out ((HSW.out.below hb.drew).mono hb.size); rw [HM.out] at LC; clear hb))
            gi_region_with (first
              | (refine ⟨trivial, ?_⟩; gi_at_call 13; (with_reducible refine (CallsIn.inRound lp (callsIn_wide.2 LC)).mono ?_); rintro e w2 ⟨⟨u, rfl, hu⟩, hb⟩; obtain ⟨ua, un, uc, rfl⟩ := hu.form; have q2' : Boxed w2 (n₀ + 1 + 1) 30 (.slice va vn vc) := (hb.block (n₀ + 1 + 1) p2.lt).trans p2; have z2' := q2'.lt; have d2' := q2'.cell; have g2' := q2'.frozen; have hBc := Lib.hid hb; have HU := Lib.hid hu; obtain ⟨v', w3, hrn, hown', hgrow, _, hat⟩ := run_append_own_at (P := Try.prog) (w2.alloc (.cells #[.slice ua un uc] 34)) (n₀ + 4) 30 30 34 i0 (.slice none 0 0) 1 24 Try.underlying30 hi iz0 iz1 iz2 rfl (by decide) _ _ _ ((ownsRow_below (ownsRow_below hrow.out.1 hBb.out.drew) hb).alloc _) ⟨w2.heap.size, 0, none⟩ 1 1 [.slice ua un uc] rfl (cell_one_new _ _ _) (by simp [Value.oneCell']) HL1.out HL2.out (by have := hb.size; have := hBb.out.size; simp at *; omega); have hrun : (appendV _ _ _).run _ _ = _ := hrn; obtain ⟨g', cap', rfl⟩ := ownsRow_succ hown'; have q3 : Boxed w3 (n₀ + 1 + 1) 30 (.slice va vn vc) := (q2'.alloc _).kept hgrow (q2'.not_row (by decide) (ownsRow_below (ownsRow_below hrow.out.1 hBb.out.drew) hb)); have d3 := q3.cell; have g3 := q3.frozen; clear hrn; have HOWN := Lib.hid hown'; have HGR := Lib.hid hgrow; have HAT := Lib.hid hat; clear hb hu hown' hgrow hat))
            all_goals
              gi_wp2_with fail
              have HR1 : OfRow w1.drew (n₀ + 4) (.slice va vn vc) (pre.map fun x => lineDots x.1.l) vs := ⟨ownsRow_below hrow.out.1 hBb.out.drew, fun j d hd => by
                obtain ⟨u, hu, ho⟩ := hrow.out.2 j d hd
                exact ⟨u, hu, ho.move (Nat.le_refl _) hBb.out.size (fun g o _ hgo _ hx => ⟨(hBb.out.block g (Array.getElem?_eq_some_iff.1 hgo).1).trans hgo, hx⟩)⟩⟩
              have hzd : W.heap.size ≤ w1.drew.heap.size := hBb.out.size
              have hzc : w1.drew.heap.size ≤ w2.heap.size := hBc.out.size
              have P := OfRow.push (B := n₀ + 1 + 1) HR1 (by omega) hBc.out HU.out HOWN.out HGR.out HAT.out (by omega)
              have A := Boxed.appended (B := n₀ + 1 + 1) q2' (by decide) (row_mono (b' := n₀) (ownsRow_below HR1.1 hBc.out) (by omega)) (by omega) (by omega) (row_mono (b' := n₀) HOWN.out (by omega)) HGR.out
              rw [List.length_map] at P A
              have hzw : n₀ + 1 + 1 + 1 < W.heap.size := by omega
              have hz1 : n₀ + 1 + 1 + 1 < w1.heap.size := by have := hBb.out.size; omega
              have hz3 : n₀ + 1 + 1 + 1 < w2.heap.size := by omega
              have hrw2 := ownsRow_below HR1.1 hBc.out
              have mv : ∀ (B : Nat) (t : TypeId) (u : Value), B < W.heap.size → t ≠ 34 → B ≠ n₀ + 1 + 1 → Boxed W B t u → Boxed (w3.setCell ⟨n₀ + 1 + 1, 0, none⟩ (.slice (some ⟨g', 0, none⟩) (pre.length + 1) cap')) B t u := fun B t u hB ht hne hu => by
                have e1 : Boxed w1.drew B t u := (hBb.out.block B hB).trans hu
                have e2 : Boxed w2 B t u := (hBc.out.block B e1.lt).trans e1
                exact ((e2.alloc _).kept HGR.out (e2.not_row ht hrw2)).other hne _
              have hBall : Below n₀ W (w3.setCell ⟨n₀ + 1 + 1, 0, none⟩ (.slice (some ⟨g', 0, none⟩) (pre.length + 1) cap')) := ((hBb.out.mono (by omega)).drew.trans (hBc.out.mono (by omega))).trans A.2.2.2.2
              refine ⟨((KeepsFrom.below hBb.out).trans ((KeepsOthers.drew w1).from _)).trans ((KeepsFrom.below hBc.out).trans (A.2.2.2.1.from _)), ⟨hBall, fun u hu => mv _ _ _ hzw (by decide) (by omega) hu⟩, _, vs ++ [.slice ua un uc], A.2.1, ?_, mv _ _ _ (by omega) (by decide) (by omega) q0, mv _ _ _ (by omega) (by decide) (by omega) q1, ?_, Lib.hid (hBW.out.trans hBall), ?_⟩
              · refine Lib.hid ?_
                rw [List.map_append]
                have := P
                rw [← HXE.out] at this
                exact this
              · refine Lib.hid fun y hy => ?_
                rcases List.mem_append.1 hy with h | h
                · exact hall.out y h
                · rw [List.mem_singleton.1 h, HXE.out, HSO.out]; rfl
              · exact Nat.le_trans hn4 hBall.size
        · have hk0' : (s.k == 0) = false := by simp [hk0]
          have HSO : Hid (subOk (s :: r) = false) := by
            have h : subOk (s :: r) = false := by show (s.k == 0 && decide (firstAt badB (s :: r) < 0)) = _; rw [hk0']; rfl
            exact h
          gi_wp2_with (refine ⟨trivial, ?_⟩)
          refine ⟨(KeepsFrom.set _ _ _ _).trans (KeepsFrom.set _ _ _ _), rfl, (q0.set _).other (by omega) _, ?_, ?_, ?_⟩
          · exact (q1.other (by omega) _).set _
          · exact Lib.hid ⟨x, by simp, by rw [HXE.out, HSO.out]⟩
          · exact Lib.hid ((hBW.out.setCell (p := ⟨n₀, 0, none⟩) (Nat.le_refl _) _).setCell (p := ⟨n₀ + 1, 0, none⟩) (Nat.le_succ _) _)
    case done =>
      rintro D xs W hD hS ⟨v, vs, q2, hrow, q0, q1, hall, hB, hn⟩ hK
      have c0 := q0.cell
      have f0 := q0.frozen
      have c1 := q1.cell
      have f1 := q1.frozen
      have c2 := q2.cell
      have f2 := q2.frozen
      have hpo : pathsOf l = (xs.map fun x => lineDots x.1.l, 0) := by
        have h1 : (subsL l).all subOk = true := by
          rw [List.all_eq_true, ← hS]
          intro y hy
          obtain ⟨x, hx, rfl⟩ := List.mem_map.1 hy
          exact hall.out x hx
        unfold pathsOf
        rw [if_neg h256, if_pos h1, ← hS, List.map_map]
        rfl
      have HPO := Lib.hid hpo
      obtain ⟨⟨hvl, hvv⟩, hds⟩ := hrow.out
      have HDS := Lib.hid hds
      have HS := Lib.hid hS
      clear hpo hds hS hall hrow
      rcases hvv with ⟨rfl, hn0⟩ | ⟨g, cp, cur, rfl, hg, hcur, hnn, hm, hsz, hxs⟩
      · gi_wp2_with (refine ⟨trivial, ?_⟩; gi_at_call 14; refine (callsIn_wide.2 (clipLines_nil _)).mono ?_; rintro e w' ⟨rfl, hw⟩; obtain rfl := hw.symm)
        have hK' := ((KeepsOthers.setCell W ⟨n₀, 0, none⟩ (.slice none 0 0)).trans (KeepsOthers.setCell _ ⟨n₀ + 1, 0, none⟩ (.int .i64 0))).same D _ hK rfl
        refine ⟨by simp, .inl ⟨_, _, rfl, run_takeDeferred hK', ?_⟩⟩
        have hlt := (Array.getElem?_eq_some_iff.1 hK').1
        have t0 := (q0.set (.slice none 0 0)).other (B' := n₀ + 1) (by omega) (.int .i64 0)
        have t1 := (q1.other (B' := n₀) (by omega) (.slice none 0 0)).set (.int .i64 0)
        obtain ⟨W2, hW2⟩ : ∃ W2, (W.setCell ⟨n₀, 0, none⟩ (.slice none 0 0)).setCell ⟨n₀ + 1, 0, none⟩ (.int .i64 0) = W2 := ⟨_, rfl⟩
        have hB2 : Below n₀ w W2 := by rw [← hW2]; exact (hB.out.setCell (p := ⟨n₀, 0, none⟩) (Nat.le_refl _) _).setCell (p := ⟨n₀ + 1, 0, none⟩) (Nat.le_succ _) _
        have hs2 : W2.heap.size = W.heap.size := by rw [← hW2]; simp
        have hk2 : ∀ k, k ≠ n₀ → k ≠ n₀ + 1 → W2.heap[k]? = W.heap[k]? := fun k h1 h2 => by
          rw [← hW2, Below.heap_setCell _ _ _ _ (show k ≠ n₀ + 1 from h2), Below.heap_setCell _ _ _ _ (show k ≠ n₀ from h1)]
        rw [hW2] at hK' hlt t0 t1 ⊢
        clear hW2
        have r0 : Boxed (W2.putObj D (.deferred none)) n₀ 30 (.slice none 0 0) := (World.putObj_heap_other (by omega)).trans t0
        have r1 : Boxed (W2.putObj D (.deferred none)) (n₀ + 1) 31 (.int .i64 0) := (World.putObj_heap_other (by omega)).trans t1
        have x0 := r0.cell
        have x1 := r1.cell
        refine ⟨.tuple #[(.slice none 0 0), .int .i64 0], by simp [results, Try.f7, go_sem, x0, x1], ⟨(.slice none 0 0), by rw [HPO.out], ?_⟩, ?_⟩
        rotate_left
        · rw [hn₀]
          exact hB2.grown (grownBy_putObj' W2 D _) (by omega) (fun k e => by cases e; omega)
        · rw [HPO.out]
          exact .inl ⟨List.eq_nil_of_length_eq_zero hn0, none, rfl⟩
      · have HX := Lib.hid hxs
        clear hxs
        have CL := clipLines g _ cp W hnn hm
        simp only [List.length_map] at CL
        unfold maxLen at hm
        gi_wp2_with (refine ⟨trivial, ?_⟩; gi_at_call 14; refine (callsIn_wide.2 CL).mono ?_; rintro e w' ⟨rfl, hw⟩; obtain rfl := hw.symm)
        have hK' := ((KeepsOthers.setCell W ⟨n₀, 0, none⟩ (.slice (some ⟨g, 0, none⟩) xs.length xs.length)).trans (KeepsOthers.setCell _ ⟨n₀ + 1, 0, none⟩ (.int .i64 0))).same D _ hK rfl
        refine ⟨by simp, .inl ⟨_, _, rfl, run_takeDeferred hK', ?_⟩⟩
        have hlt := (Array.getElem?_eq_some_iff.1 hK').1
        have t0 := (q0.set (.slice (some ⟨g, 0, none⟩) xs.length xs.length)).other (B' := n₀ + 1) (by omega) (.int .i64 0)
        have t1 := (q1.other (B' := n₀) (by omega) (.slice (some ⟨g, 0, none⟩) xs.length xs.length)).set (.int .i64 0)
        obtain ⟨W2, hW2⟩ : ∃ W2, (W.setCell ⟨n₀, 0, none⟩ (.slice (some ⟨g, 0, none⟩) xs.length xs.length)).setCell ⟨n₀ + 1, 0, none⟩ (.int .i64 0) = W2 := ⟨_, rfl⟩
        have hB2 : Below n₀ w W2 := by rw [← hW2]; exact (hB.out.setCell (p := ⟨n₀, 0, none⟩) (Nat.le_refl _) _).setCell (p := ⟨n₀ + 1, 0, none⟩) (Nat.le_succ _) _
        have hs2 : W2.heap.size = W.heap.size := by rw [← hW2]; simp
        have hk2 : ∀ k, k ≠ n₀ → k ≠ n₀ + 1 → W2.heap[k]? = W.heap[k]? := fun k h1 h2 => by
          rw [← hW2, Below.heap_setCell _ _ _ _ (show k ≠ n₀ + 1 from h2), Below.heap_setCell _ _ _ _ (show k ≠ n₀ from h1)]
        rw [hW2] at hK' hlt t0 t1 ⊢
        clear hW2
        have r0 : Boxed (W2.putObj D (.deferred none)) n₀ 30 (.slice (some ⟨g, 0, none⟩) xs.length xs.length) := (World.putObj_heap_other (by omega)).trans t0
        have r1 : Boxed (W2.putObj D (.deferred none)) (n₀ + 1) 31 (.int .i64 0) := (World.putObj_heap_other (by omega)).trans t1
        have x0 := r0.cell
        have x1 := r1.cell
        refine ⟨.tuple #[(.slice (some ⟨g, 0, none⟩) xs.length xs.length), .int .i64 0], by simp [results, Try.f7, go_sem, x0, x1], ⟨(.slice (some ⟨g, 0, none⟩) xs.length xs.length), by rw [HPO.out], ?_⟩, ?_⟩
        rotate_left
        · rw [hn₀]
          exact hB2.grown (grownBy_putObj' W2 D _) (by omega) (fun k e => by cases e; omega)
        · rw [HPO.out, hn₀]
          refine .inr ⟨g, by rw [List.length_map], by omega, by have := (Array.getElem?_eq_some_iff.1 hcur).1; simp [World.putObj]; omega, fun j d hd => ?_⟩
          obtain ⟨u, hu, ho⟩ := HDS.out j d hd
          have hDne : ∀ k o, W.heap[k]? = some o → o.isCells = true → n₀ + 4 ≤ k → (W2.putObj D (.deferred none)).heap[k]? = some o := fun k o hk hc hge => by
            have hkD : k ≠ D := fun e => by
              subst e
              rw [hK] at hk; cases hk; cases hc
            exact (World.putObj_heap_other hkD).trans ((hk2 k (by omega) (by omega)).trans hk)
          refine ⟨u, ?_, ?_⟩
          · have h1 : cur[j]? = some u := by
              rw [← HX.out, List.getElem?_take] at hu
              split at hu
              · simpa using hu
              · cases hu
            have := hDne g _ hcur rfl hg
            simp [World.cell?, this, h1]
          · rcases ho with h | ⟨g2, hv, h1, h2, h3, o, ho, hc, h4⟩
            · exact .inl h
            · refine .inr ⟨g2, hv, by omega, by simp [World.putObj]; omega, fun j u hu => ?_⟩
              have e := hDne g2 o ho hc h1
              exact (World.cell?_of_block (w := W) (w' := W2.putObj D (.deferred none)) (a := ⟨g2, j, none⟩) (e.trans ho.symm)).trans (h4 j u hu)
    case stop =>
      rintro D c pre W hD hS ⟨rfl, q0, q1, hex, hB⟩ hK
      gi_wp2_with fail
      have hpo : pathsOf l = ([], 4) := by
        have h1 : ¬ (subsL l).all subOk = true := by
          rw [List.all_eq_true]
          intro h
          obtain ⟨x, hx, hb⟩ := hex.out
          have := h x.1.l (hS.subset (List.mem_map.2 ⟨x, hx, rfl⟩))
          rw [hb] at this; cases this
        unfold pathsOf
        rw [if_neg h256, if_neg h1]
      refine ⟨by simp, .inl ⟨_, _, rfl, run_takeDeferred hK, ?_⟩⟩
      have r0 : Boxed (W.putObj D (.deferred none)) n₀ 30 (.slice none 0 0) := (World.putObj_heap_other (by omega)).trans q0
      have r1 : Boxed (W.putObj D (.deferred none)) (n₀ + 1) 31 (.int .i64 4) := (World.putObj_heap_other (by omega)).trans q1
      have x0 := r0.cell
      have x1 := r1.cell
      have hlt := (Array.getElem?_eq_some_iff.1 hK).1
      refine ⟨.tuple #[.slice none 0 0, .int .i64 4], by simp [results, Try.f7, go_sem, x0, x1], ⟨.slice none 0 0, by rw [hpo], .inl ⟨by rw [hpo], none, rfl⟩⟩, ?_⟩
      rw [hn₀]
      exact hB.out.grown (grownBy_putObj' W D _) (by omega) (fun k e => by cases e; omega)

end Go.Proofs.Ytbhpfhggcdccjaa
