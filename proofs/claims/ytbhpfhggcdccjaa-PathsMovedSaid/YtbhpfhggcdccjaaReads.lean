/- A slice that reads as a list, nil let in; an append of such a one onto a row of the call's own. The lemmas of the first and the third section of the kit's page 'extra-words', taken over as that page offers them. -/
import Derived.Below
import Derived.Laws.OwnMore
import Derived.Deep.AppendLies
import Derived.Deep.Draws
import Derived.Maps.AppendAt
import Derived.RegionTactic
import Derived.OwnWalk
import Derived.Test.YtbhpfhggcdccjaaLives
namespace Go.Proofs.Ytbhpfhggcdccjaa
open Go.RowKit

theorem block_of_add (a : Addr) (n : Nat) : (a.add n).block = a.block := by unfold Addr.add; split <;> rfl
theorem add_of_add (a : Addr) (i j : Nat) : (a.add i).add j = a.add (i + j) := by
  unfold Addr.add
  by_cases hi : i = 0 <;> by_cases hj : j = 0 <;> simp [hi, hj, Nat.add_assoc]

def Reads (w : World) (B size : Nat) (A : Option Addr) (n : Nat) (xs : List Value) : Prop :=
  xs.length = n * size ∧ (0 < n → ∃ ad, A = some ad ∧ ad.block < B ∧ ∀ j u, xs[j]? = some u → w.cell? (ad.add j) = some u)

section
variable {w w' : World} {B B' size n : Nat} {A : Option Addr} {xs : List Value}
theorem Reads.none_ : Reads w B size A 0 [] := ⟨by simp, fun h => absurd h (by omega)⟩
theorem Reads.at_ {k : Nat} (h : Reads w B 1 A n xs) (hk : k < n) : ∃ ad u, A = some ad ∧ ad.block < B ∧ xs[k]? = some u ∧ w.cell? (ad.add k) = some u := by
  obtain ⟨ad, e, hb, hc⟩ := h.2 (by omega)
  have hl : k < xs.length := by have := h.1; omega
  exact ⟨ad, xs[k], e, hb, List.getElem?_eq_getElem hl, hc k _ (List.getElem?_eq_getElem hl)⟩
theorem Reads.keep (h : Reads w B size A n xs) (hk : ∀ p : Addr, p.block < B → w'.cell? p = w.cell? p) : Reads w' B size A n xs :=
  ⟨h.1, fun hn => by
    obtain ⟨ad, e, hb, hc⟩ := h.2 hn
    exact ⟨ad, e, hb, fun j u hu => (hk _ (by rw [block_of_add]; exact hb)).trans (hc j u hu)⟩⟩
theorem Reads.more (h : Reads w B size A n xs) (hB : B ≤ B') : Reads w B' size A n xs :=
  ⟨h.1, fun hn => by
    obtain ⟨ad, e, hb, hc⟩ := h.2 hn
    exact ⟨ad, e, by omega, hc⟩⟩
theorem Reads.below (h : Reads w B size A n xs) (hb : Below B w w') : Reads w' B size A n xs := h.keep fun _ hp => hb.cell hp
theorem Reads.drew (h : Reads w B size A n xs) : Reads w.drew B size A n xs := h
theorem Reads.drewN (h : Reads w B size A n xs) (k : Nat) : Reads (w.drewN k) B size A n xs := h
theorem Reads.alloc (h : Reads w B size A n xs) (hB : B ≤ w.heap.size) (o : Obj) : Reads (w.alloc o) B size A n xs := h.keep fun p hp => World.cell?_alloc_lt w o p (by omega)
theorem Reads.setCell (h : Reads w B size A n xs) {p : Addr} (hB : B ≤ p.block) (u : Value) : Reads (w.setCell p u) B size A n xs :=
  h.keep fun q hq => World.cell?_setCell_other w p q u (fun e => by subst e; omega)
theorem Reads.grown (h : Reads w B size A n xs) {row : Option Nat} (hg : w.grownBy w' row) (hB : B ≤ w.heap.size) (hr : ∀ g, row = some g → B ≤ g) : Reads w' B size A n xs :=
  h.keep fun p hp => World.cell?_of_block (hg.block p.block (by omega) (fun e => by have := hr _ e.symm; omega))
theorem Reads.cut (h : Reads w B size A n xs) {k cap : Nat} (hk : k ≤ n) (hc : n ≤ cap) :
    Reads w B size (if cap = k then A else A.map (·.add (k * size))) (n - k) (xs.drop (k * size)) := by
  refine ⟨by rw [List.length_drop, h.1, Nat.sub_mul], fun hn => ?_⟩
  obtain ⟨ad, rfl, hb, hcell⟩ := h.2 (by omega)
  rw [if_neg (by omega)]
  refine ⟨ad.add (k * size), rfl, by rw [block_of_add]; exact hb, fun j u hu => ?_⟩
  rw [add_of_add]
  exact hcell _ u (by rw [← hu, List.getElem?_drop])
theorem Reads.of_own {base : Nat} {e : TypeId} {c : Nat} (h : w.ownsRow base e size (.slice A n c) n xs) : Reads w w.heap.size size A n xs := by
  refine ⟨h.1, fun hn => ?_⟩
  obtain ⟨g, cap, hv, _, hlt⟩ := h.form hn
  have hA : A = some ⟨g, 0, none⟩ := by injection hv
  subst hA
  exact ⟨_, rfl, hlt, h.cells (g := g) rfl⟩
end

section
variable {P : Program} (w : World)

theorem run_append_of_nil (base : Nat) (t ty e : TypeId) (i : TypeInfo) (size : Nat) (ht : P.underlying t = some (.slice e)) (hi : P.info? e = some i)
    (v : Value) (n : Nat) (xs : List Value) (hown : w.ownsRow base e size v n xs) (c : Nat) : (Builtin.append_ #[t, t] ty #[v, .slice none 0 c]).run P w = .ok v w := by
  rcases hown.2 with ⟨rfl, rfl⟩ | ⟨g, cap, cur, rfl, _, _, hnc, _⟩
  · simp [Builtin.append_, run_underlying ht, sizeOf, typeInfo, hi, Builtin.lenOf, Builtin.firstCells]
  · simp [Builtin.append_, run_underlying ht, sizeOf, typeInfo, hi, Builtin.lenOf, Builtin.firstCells, hnc, storeCells]

theorem run_append_any (base : Nat) (t ty e : TypeId) (i : TypeInfo) (z : Value) (size bytes : Nat) (ht : P.underlying t = some (.slice e)) (hi : P.info? e = some i) (hz : i.zero = some z)
    (hsize : i.size = size) (hby : i.bytes = bytes) (hzs : z.cells.size = size) (hsz : 0 < size)
    (v : Value) (n : Nat) (xs : List Value) (hown : w.ownsRow base e size v n xs)
    (B : Nat) (A : Option Addr) (m c : Nat) (news : List Value) (hr : Reads w B size A m news) (h1 : ∀ u ∈ news, u.oneCell' = true)
    (h63 : n + m ≤ maxLen) (hbytes : (n + m) * bytes ≤ 140737488355328) (hbase : base ≤ w.heap.size) :
    ∃ v' w', (Builtin.append_ #[t, t] ty #[v, .slice A m c]).run P w = .ok v' w' ∧ w'.ownsRow base e size v' (n + m) (xs ++ news) ∧ w.grownBy w' v.ownBlock ∧
      (v'.ownBlock = v.ownBlock ∨ v'.ownBlock = some w.heap.size) := by
  rcases A with _ | ad
  · have hm : m = 0 := by
      rcases Nat.eq_zero_or_pos m with h0 | h0
      · exact h0
      · obtain ⟨ad, h, _⟩ := hr.2 h0
        cases h
    subst hm
    have hn : news = [] := List.eq_nil_of_length_eq_zero (by simpa using hr.1)
    subst hn
    exact ⟨v, w, run_append_of_nil w base t ty e i size ht hi v n xs hown c, by simpa using hown, World.grownBy.refl w _, .inl rfl⟩
  · have hcells : ∀ j u, news[j]? = some u → w.cell? (ad.add j) = some u := by
      intro j u hu
      rcases Nat.eq_zero_or_pos m with h0 | h0
      · subst h0
        have hn : news = [] := List.eq_nil_of_length_eq_zero (by simpa using hr.1)
        subst hn
        simp at hu
      · obtain ⟨ad', h, _, hc⟩ := hr.2 h0
        injection h with h
        subst h
        exact hc j u hu
    obtain ⟨v', w', hrun, h2, h3, _, h5⟩ := run_append_own_at (P := P) w base t ty e i z size bytes ht hi hz hsize hby hzs hsz v n xs hown ad m c news hr.1 hcells h1 h63 hbytes hbase
    exact ⟨v', w', hrun, h2, h3, h5⟩

theorem wp_append_any {o : Oper} {a : Act} {K : Act → World → Prop} {Q : Exit → Act → World → Prop} (s x : Operand) (t : TypeId)
    (ho : o.op = .call { callee := .builtin .append, args := #[s, x], argTypes := #[t, t] })
    (base : Nat) (e : TypeId) (i : TypeInfo) (z : Value) (size bytes : Nat) (ht : P.underlying t = some (.slice e)) (hi : P.info? e = some i) (hz : i.zero = some z)
    (hsize : i.size = size) (hby : i.bytes = bytes) (hzs : z.cells.size = size) (hsz : 0 < size)
    (v : Value) (n : Nat) (xs : List Value) (hs : a.eval s = v) (hown : w.ownsRow base e size v n xs)
    (B : Nat) (A : Option Addr) (m c : Nat) (news : List Value) (hx : a.eval x = .slice A m c) (hr : Reads w B size A m news) (h1 : ∀ u ∈ news, u.oneCell' = true)
    (h63 : n + m ≤ maxLen) (hbytes : (n + m) * bytes ≤ 140737488355328) (hbase : base ≤ w.heap.size)
    (h : ∀ v' w', w'.ownsRow base e size v' (n + m) (xs ++ news) → w.grownBy w' v.ownBlock → (v'.ownBlock = v.ownBlock ∨ v'.ownBlock = some w.heap.size) → K (a.put o.dst v') w') : o.wp P a w K Q := by
  obtain ⟨v', w', hrun, h2, h3, h4⟩ := run_append_any (P := P) w base t o.type e i z size bytes ht hi hz hsize hby hzs hsz v n xs hown B A m c news hr h1 h63 hbytes hbase
  unfold Oper.wp execOp
  simp only [ho, resolve, invoke, builtin, Sem.run_bind, Sem.run_pure, Result.andThen_ok, List.map_toArray, List.map_cons, List.map_nil, hs, hx, hrun]
  exact h v' w' h2 h3 h4

theorem wpList_append_any {ops : Array Oper} {rest : List Oper} {o : Oper} {a : Act} {Q : Exit → Act → World → Prop} (hgd : o.guard = none) (s x : Operand) (t : TypeId)
    (ho : o.op = .call { callee := .builtin .append, args := #[s, x], argTypes := #[t, t] })
    (base : Nat) (e : TypeId) (i : TypeInfo) (z : Value) (size bytes : Nat) (ht : P.underlying t = some (.slice e)) (hi : P.info? e = some i) (hz : i.zero = some z)
    (hsize : i.size = size) (hby : i.bytes = bytes) (hzs : z.cells.size = size) (hsz : 0 < size)
    (v : Value) (n : Nat) (xs : List Value) (hs : a.eval s = v) (hown : w.ownsRow base e size v n xs)
    (B : Nat) (A : Option Addr) (m c : Nat) (news : List Value) (hx : a.eval x = .slice A m c) (hr : Reads w B size A m news) (h1 : ∀ u ∈ news, u.oneCell' = true)
    (h63 : n + m ≤ maxLen) (hbytes : (n + m) * bytes ≤ 140737488355328) (hbase : base ≤ w.heap.size)
    (h : ∀ v' w', w'.ownsRow base e size v' (n + m) (xs ++ news) → w.grownBy w' v.ownBlock → (v'.ownBlock = v.ownBlock ∨ v'.ownBlock = some w.heap.size) → wpList P ops Q rest (a.put o.dst v') w') : wpList P ops Q (o :: rest) a w :=
  wpList_plain hgd fun _ hK => wp_append_any w s x t ho base e i z size bytes ht hi hz hsize hby hzs hsz v n xs hs hown B A m c news hx hr h1 h63 hbytes hbase fun v' w' h2 h3 h4 => hK _ _ (h v' w' h2 h3 h4)

theorem step_append_any {ops : Array Oper} {o : Oper} {a : Act} {K : Act → World → Prop} {Q : Exit → Act → World → Prop} {E : Prop} (hgd : o.guard = none) (s x : Operand) (t : TypeId)
    (ho : o.op = .call { callee := .builtin .append, args := #[s, x], argTypes := #[t, t] })
    (base : Nat) (e : TypeId) (i : TypeInfo) (z : Value) (size bytes : Nat) (ht : P.underlying t = some (.slice e)) (hi : P.info? e = some i) (hz : i.zero = some z)
    (hsize : i.size = size) (hby : i.bytes = bytes) (hzs : z.cells.size = size) (hsz : 0 < size)
    (v : Value) (n : Nat) (xs : List Value) (hs : a.eval s = v) (hown : w.ownsRow base e size v n xs)
    (B : Nat) (A : Option Addr) (m c : Nat) (news : List Value) (hx : a.eval x = .slice A m c) (hr : Reads w B size A m news) (h1 : ∀ u ∈ news, u.oneCell' = true)
    (h63 : n + m ≤ maxLen) (hbytes : (n + m) * bytes ≤ 140737488355328) (hbase : base ≤ w.heap.size)
    (h : ∀ v' w', w'.ownsRow base e size v' (n + m) (xs ++ news) → w.grownBy w' v.ownBlock → (v'.ownBlock = v.ownBlock ∨ v'.ownBlock = some w.heap.size) → K (a.put o.dst v') w') :
    if Region.wanted o (yielded ops a.tmps) = true then Oper.wp P o a w K Q else E := by
  have hw : Region.wanted o (yielded ops a.tmps) = true := by simp [Region.wanted, hgd]
  rw [if_pos hw]
  exact wp_append_any w s x t ho base e i z size bytes ht hi hz hsize hby hzs hsz v n xs hs hown B A m c news hx hr h1 h63 hbytes hbase h
end

/-! Segments, and lines, as rows. -/

theorem flat_len (l : List Sg) : (l.flatMap Sg.vals).length = l.length * 7 := by
  induction l with
  | nil => rfl
  | cons s l ih => rw [List.flatMap_cons, List.length_append, ih]; simp [Sg.vals]; omega
theorem flat_one (l : List Sg) : ∀ u ∈ l.flatMap Sg.vals, u.oneCell' = true := by
  intro u hu
  obtain ⟨s, _, hs⟩ := List.mem_flatMap.1 hu
  simp only [Sg.vals, List.mem_cons, List.not_mem_nil, or_false] at hs
  rcases hs with rfl | rfl | rfl | rfl | rfl | rfl | rfl <;> rfl
/-- A cell of the row, taken apart: which segment, which number. -/
theorem flat_at : ∀ (l : List Sg) (j : Nat) (u : Value), (l.flatMap Sg.vals)[j]? = some u → ∃ (i r : Nat) (s : Sg), j = i * 7 + r ∧ l[i]? = some s ∧ s.vals[r]? = some u
  | [], j, u, h => by simp at h
  | s :: l, j, u, h => by
    rw [List.flatMap_cons, List.getElem?_append] at h
    split at h
    · exact ⟨0, j, s, by omega, rfl, h⟩
    · rename_i hge
      obtain ⟨i, r, t, h1, h2, h3⟩ := flat_at l _ u h
      have e : s.vals.length = 7 := rfl
      exact ⟨i + 1, r, t, by rw [e] at h1 hge; omega, by simpa using h2, h3⟩

theorem addr_add0 (b off j : Nat) : (⟨b, off, none⟩ : Addr).add j = ⟨b, off + j, none⟩ := by
  unfold Addr.add
  split
  · rename_i h; rw [h]; rfl
  · rfl

theorem SegsAt.reads {W : World} {n₀ : Nat} {a : Option Addr} {l : List Sg} (h : SegsAt W n₀ a l) : Reads W n₀ 7 a l.length (l.flatMap Sg.vals) := by
  refine ⟨flat_len l, fun hn => ?_⟩
  rcases h with rfl | ⟨b, off, ha, hb, hc⟩
  · simp at hn
  · refine ⟨⟨b, off, none⟩, ha, hb, fun j u hu => ?_⟩
    obtain ⟨i, r, s, rfl, hs, hr⟩ := flat_at l j u hu
    rw [addr_add0, ← Nat.add_assoc]
    exact hc i s hs r u hr

theorem segs_of_own {W : World} {base n : Nat} {e : TypeId} {v : Value} {l : List Sg} (h : W.ownsRow base e 7 v n (l.flatMap Sg.vals)) (hn : n = l.length) :
    ∃ (A : Option Addr) (c : Nat), v = .slice A l.length c ∧ l.length ≤ c ∧ c ≤ 9223372036854775807 ∧ SegsAt W W.heap.size A l := by
  subst hn
  obtain ⟨hl, ⟨rfl, h0⟩ | ⟨g, cap, cur, rfl, hg, hcur, hnn, hm, hsz, hxs⟩⟩ := h
  · exact ⟨none, 0, by rw [h0], by omega, by omega, .inl (List.eq_nil_of_length_eq_zero h0)⟩
  · refine ⟨some ⟨g, 0, none⟩, cap, rfl, hnn, by simpa [maxLen] using hm, .inr ⟨g, 0, rfl, (Array.getElem?_eq_some_iff.1 hcur).1, fun i s his j u hu => ?_⟩⟩
    have h1 := vals_getElem l i s his j u hu
    rw [← hxs, List.getElem?_take] at h1
    split at h1
    · simp [World.cell?, hcur]
      simpa using h1
    · cases h1

/-- Lines, as a row of slices. -/
theorem LinesRd.row {W : World} {v : Value} {ls : List (List (Int × Int))} (h : LinesRd W v ls) :
    ∃ (A : Option Addr) (c : Nat) (us : List Value), v = .slice A ls.length c ∧ Reads W W.heap.size 1 A ls.length us ∧ (∀ u ∈ us, u.oneCell' = true) ∧ ∀ (j : Nat) (d : List (Int × Int)), ls[j]? = some d → ∃ u, us[j]? = some u ∧ DotsRd W u d := by
  rcases h with ⟨rfl, a, c, e⟩ | ⟨g, c, e, hg, hc⟩
  · exact ⟨a, c, [], e, Reads.none_, by simp, by simp⟩
  · have : ∀ i, i < ls.length → ∃ u, W.cell? ⟨g, i, none⟩ = some u ∧ DotsRd W u (ls.getD i []) := fun i hi => by
      have h1 : ls[i]? = some (ls.getD i []) := by simp [List.getD, hi]
      exact hc i _ h1
    have inh : Inhabited Value := ⟨undef⟩
    classical
    let f : Nat → Value := fun i => if hi : i < ls.length then Classical.choose (this i hi) else undef
    have hf : ∀ i, i < ls.length → W.cell? ⟨g, i, none⟩ = some (f i) ∧ DotsRd W (f i) (ls.getD i []) := fun i hi => by
      show W.cell? ⟨g, i, none⟩ = some (if hi : i < ls.length then Classical.choose (this i hi) else undef) ∧ DotsRd W (if hi : i < ls.length then Classical.choose (this i hi) else undef) _
      rw [dif_pos hi]
      exact Classical.choose_spec (this i hi)
    refine ⟨some ⟨g, 0, none⟩, c, (List.range ls.length).map f, e, ⟨by simp, fun hn => ⟨_, rfl, hg, fun j u hu => ?_⟩⟩, fun u hu => ?_, fun j d hd => ?_⟩
    · rw [addr_add0, Nat.zero_add]
      have hj : j < ls.length := by simpa using (List.getElem?_eq_some_iff.1 hu).1
      simp [hj] at hu
      rw [← hu]; exact (hf j hj).1
    · obtain ⟨i, hi, rfl⟩ := List.mem_map.1 hu
      obtain ⟨a, c', e'⟩ := (hf i (List.mem_range.1 hi)).2.form
      rw [e']; rfl
    · have hj : j < ls.length := (List.getElem?_eq_some_iff.1 hd).1
      refine ⟨f j, by simp [hj], ?_⟩
      have h1 := (hf j hj).2
      simpa [List.getD, hd] using h1

theorem lines_of_own {W : World} {base n : Nat} {e : TypeId} {v : Value} {us : List Value} {ls : List (List (Int × Int))} (h : W.ownsRow base e 1 v n us) (hn : n = ls.length)
    (hd : ∀ (j : Nat) (d : List (Int × Int)), ls[j]? = some d → ∃ u, us[j]? = some u ∧ DotsRd W u d) : LinesRd W v ls := by
  subst hn
  obtain ⟨hl, ⟨rfl, h0⟩ | ⟨g, cap, cur, rfl, hg, hcur, hnn, hm, hsz, hxs⟩⟩ := h
  · exact .inl ⟨List.eq_nil_of_length_eq_zero h0, none, 0, rfl⟩
  · refine .inr ⟨g, cap, rfl, (Array.getElem?_eq_some_iff.1 hcur).1, fun j d hjd => ?_⟩
    obtain ⟨u, hu, ho⟩ := hd j d hjd
    refine ⟨u, ?_, ho⟩
    rw [← hxs, List.getElem?_take] at hu
    split at hu
    · simp [World.cell?, hcur]
      simpa using hu
    · cases hu

/-- Rows one behind the other. -/
theorem rows_append {W : World} {us vs : List Value} {a b : List (List (Int × Int))} (hl : us.length = a.length) (h : ∀ (j : Nat) (d : List (Int × Int)), a[j]? = some d → ∃ u, us[j]? = some u ∧ DotsRd W u d)
    (h' : ∀ (j : Nat) (d : List (Int × Int)), b[j]? = some d → ∃ u, vs[j]? = some u ∧ DotsRd W u d) : ∀ (j : Nat) (d : List (Int × Int)), (a ++ b)[j]? = some d → ∃ u, (us ++ vs)[j]? = some u ∧ DotsRd W u d := by
  intro j d hd
  rw [List.getElem?_append] at hd
  split at hd
  · rename_i hlt
    rw [List.getElem?_append_left (by omega)]
    exact h j d hd
  · rename_i hge
    rw [List.getElem?_append_right (by omega), hl]
    exact h' _ d hd

theorem Reads.new {W : World} {cs : Array Value} {t : TypeId} {size n : Nat} {us : List Value} (hcs : cs.toList = us) (hl : us.length = n * size) (b : Nat) (hb : b = W.heap.size) : Reads (W.alloc (.cells cs t)) (W.heap.size + 1) size (some ⟨b, 0, none⟩) n us := by
  refine ⟨hl, fun _ => ⟨_, rfl, by show b < _; omega, fun j u hu => ?_⟩⟩
  rw [addr_add0, cell_in_new _ _ _ _ _ hb, Nat.zero_add, ← Array.getElem?_toList, hcs]
  exact hu

end Go.Proofs.Ytbhpfhggcdccjaa
