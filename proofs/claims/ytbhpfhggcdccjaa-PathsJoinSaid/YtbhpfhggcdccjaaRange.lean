/- A range over a function whose iterator keeps a state of its own in one cell (block Bx): what the caller owes, and gets. -/
import Derived.RangeFuncNested
import Derived.RangeFuncBound
import Derived.RangeFuncCalls
import Derived.RangeFuncLeaves
import Derived.RangeFuncBox
import Derived.Shelf.Abstract
import Derived.Shelf.RegionOpen
import Derived.OwnWalkIn
import Derived.TacticsInMore
import Derived.LoopNIn
import Derived.LoopIn
import Derived.Maps.AppendAt
import Derived.Test.YtbhpfhggcdccjaaIndex
namespace Go.Proofs.Ytbhpfhggcdccjaa
open Go.RowKit

/-- A step of the iterator's own: new blocks, and its one cell. -/
def StepOf (Bx : Nat) (A B : World) : Prop := A.grownBy B (some Bx)

theorem StepOf.of_none {Bx : Nat} {A B : World} (h : A.grownBy B none) : StepOf Bx A B := ⟨h.os, h.tape, h.output, h.size, fun k hk _ => h.block k hk (by simp)⟩
theorem StepOf.alloc {Bx : Nat} (A : World) (o : Obj) : StepOf Bx A (A.alloc o) := StepOf.of_none (World.grownBy_alloc A o none)
theorem StepOf.heap {Bx : Nat} {A B : World} (h : StepOf Bx A B) {k : Nat} (hk : k < A.heap.size) (hne : k ≠ Bx) : B.heap[k]? = A.heap[k]? := h.block k hk (fun e => hne (by cases e; rfl))

/-- The iterator's contract: whatever the caller holds true, if the iterator's own steps let it be. -/
def SeqOf {α : Type} (F : Fence) (n : Nat) (P : Program) (g : Nat) (lb : Array Value) (encs : α → Array Value) (Bx : Nat) (Kp : World → World → Prop) (S Sp : List α → Prop) (N : Nat) (w : World) : Prop :=
  ∀ (l : Nat) (J Jx : List α → World → Prop) (W : World), Below w.heap.size w W → (∀ s A B, J s A → StepOf Bx A B → J s B) → (∀ s A B, Jx s A → StepOf Bx A B → Jx s B) →
    (∀ pre x W1, J pre W1 → pre.length < N → YieldAt F (n - 1) P l (encs x) W1 fun e W' =>
      (e = .returned (.bool true) ∧ J (pre ++ [x]) W' ∧ Kp W1 W') ∨ (e = .returned (.bool false) ∧ Jx (pre ++ [x]) W')) →
    J [] W →
    CallsIn F n P g (#[.func (.yield l) #[] #[]] ++ lb) W fun e W' => (∃ v, e = .returned v) ∧ ((∃ xs, S xs ∧ J xs W') ∨ (∃ pre, Sp pre ∧ Jx pre W'))

variable {F : Fence} {n : Nat} {P : Program}

/-- What the caller owes: it holds through the iterator's steps, and through the loop's own bookkeeping (blocks that are no cells, from the loop's start on). -/
structure Holds {β : Type} (Bx B : Nat) (I : β → World → Prop) : Prop where
  step : ∀ s A A', I s A → StepOf Bx A A' → I s A'
  book : ∀ s A l o o', I s A → B ≤ l → A.heap[l]? = some o → o.isCells = false → I s (A.putObj l o')

theorem rangeOf {α : Type} {g : Operand} {ps : Array Tmp} {assign body : Code} {Q : Exit → Act → World → Prop} {a : Act} {w : World}
    (hro : F.round = none) (h1 : 1 ≤ n) {gf : Nat} {lb : Array Value} (hg : a.eval g = .func (.func gf) #[] lb) (hFg : F.fn gf) (eg : ∀ args w, (callFunc gf args).run P w = .ok (.enter gf args) w)
    {encs : α → Array Value} {Bx : Nat} {Kp : World → World → Prop} {S Sp : List α → Prop} {N : Nat} (hseq : SeqOf F (n - 1) P gf lb encs Bx Kp S Sp N w) (hBx : Bx < w.heap.size)
    (hKt : ∀ {A B C : World}, Kp A B → Kp B C → Kp A C) (hKb : ∀ (W : World) (l : Nat) (o o' : Obj), w.heap.size ≤ l → W.heap[l]? = some o → o.isCells = false → Kp W (W.putObj l o')) (hps : ∀ x, (encs x).size = ps.size)
    (I : List α → World → Prop) (Ix : Code → List α → World → Prop) (hI : Holds Bx w.heap.size I) (hIx : ∀ c, Holds Bx w.heap.size (Ix c)) (h0 : I [] w) (a₁ : α → Act)
    (hassign : ∀ (l : Nat) (x : α) (W : World) (K : Act → World → Prop), K (a₁ x) W →
      assign.wpIn (F.inRound l) (n - 1 - 1) P (Exit.then K (fun _ _ _ => False)) { tmps := (ps.zip (encs x)).foldl (fun t (p, v) => t.setIfInBounds p v) a.tmps, defers := [] } W)
    (hbody : ∀ (l : Nat) (pre : List α) (x : α) (W : World), I pre W → pre.length < N → body.wpIn (F.inRound l) (n - 1 - 1) P (ownPostG w.heap.size Kp I Ix (pre ++ [x]) W) (a₁ x) W)
    (hdone : ∀ (D : Nat) (xs : List α) (W : World), w.heap.size ≤ D → S xs → I xs W → W.heap[D]? = some (.deferred (some [])) → Q .normal { a with defers := { target := .collected D, args := #[] } :: a.defers } W)
    (hstop : ∀ (D : Nat) (c : Code) (pre : List α) (W : World), w.heap.size ≤ D → Sp pre → Ix c pre W → W.heap[D]? = some (.deferred (some [])) → c.wpIn F n P Q { a with defers := { target := .collected D, args := #[] } :: a.defers } W) :
    (Code.rangeFunc g ps assign body).wpIn F n P Q a w := by
  refine wpIn_rangeFunc ?_
  intro fn hfn
  rw [hro]
  -- the loop's record, in each of its states; its block, and the block of the deferred calls
  let rc : LoopState → Option Code → Obj := fun st pe => .loop { state := st, pending := pe, fn, tmps := a.tmps, params := ps, assign, body, defers := w.heap.size }
  let D := w.heap.size
  let Lp := w.heap.size + 1
  let W1 := (w.alloc (.deferred (some []))).alloc (rc .ready none)
  have hL1 : W1.heap[Lp]? = some (rc .ready none) := by
    have := World.alloc_heap_new (w.alloc (.deferred (some []))) (rc .ready none); rwa [World.size_alloc] at this
  have hD1 : W1.heap[D]? = some (.deferred (some [])) := (Below.heap_alloc _ _ _ (by simp [D])).trans (World.alloc_heap_new w _)
  have hI1 : I [] W1 := hI.step _ _ _ (hI.step _ _ _ h0 (StepOf.alloc _ _)) (StepOf.alloc _ _)
  have hb1 : Below w.heap.size w W1 := balloc (balloc (Below.refl _ _) _) _
  -- both records lie as they lay, through a step of the iterator
  have hkeep : ∀ {A B : World} {o : Obj} {k : Nat}, StepOf Bx A B → D ≤ k → A.heap[k]? = some o → B.heap[k]? = some o := fun {A B o k} h hk ho =>
    (h.heap (Array.getElem?_eq_some_iff.1 ho).1 (by have := hBx; omega)).trans ho
  refine ⟨Lp, [{ target := .collected D, args := #[] }], W1, { target := .fn (.func gf) lb, args := #[.func (.yield Lp) #[] #[]] }, W1, gf, #[.func (.yield Lp) #[] #[]] ++ lb, W1, run_enterLoop_outer _ _ _ _ _, ?_, ?_, ?_, fun _ => h1, ?_⟩
  · simp only [resolve, hg]; simp [go_sem]
  · intro f' hf'; simp [Target.leads] at hf'; subst hf'; exact hFg
  · simp [invoke, go_sem, eg]
  · refine (hseq Lp (fun pre W => I pre W ∧ W.heap[Lp]? = some (rc .ready none) ∧ W.heap[D]? = some (.deferred (some [])))
      (fun pre W => ∃ c, Ix c pre W ∧ W.heap[Lp]? = some (rc .done (some c)) ∧ W.heap[D]? = some (.deferred (some []))) W1 hb1
      (fun s A B h hs => ⟨hI.step _ _ _ h.1 hs, hkeep hs (by omega) h.2.1, hkeep hs (Nat.le_refl _) h.2.2⟩)
      (fun s A B h hs => by obtain ⟨c, hc, hl, hk⟩ := h; exact ⟨c, (hIx c).step _ _ _ hc hs, hkeep hs (by omega) hl, hkeep hs (Nat.le_refl _) hk⟩)
      ?round ⟨hI1, hL1, hD1⟩).mono ?behind
    case round =>
      rintro pre x W ⟨hi, hl, hk⟩ hlen
      have hlt : Lp < W.heap.size := (Array.getElem?_eq_some_iff.1 hl).1
      have hy := run_yield (P := P) (args := encs x) hl (hps x)
      refine ⟨fn, _, assign, body, hy, roundIn_of_wpIn hfn (hassign _ x W _ ⟨_, run_beginRound hl rfl, ?_⟩)⟩
      have hl2 : (W.putObj Lp (rc .busy none)).heap[Lp]? = some (rc .busy none) := World.putObj_heap_same hlt
      have hk2 : (W.putObj Lp (rc .busy none)).heap[D]? = some (.deferred (some [])) := (World.putObj_heap_other (by omega)).trans hk
      refine wpIn_mono (hbody _ pre x _ (hI.book _ _ _ _ _ hi (by omega) hl rfl) hlen) ?_
      -- the round's end, however it is left
      have fin : ∀ (jump : Option Code) (W3 : World), KeepsFrom w.heap.size (W.putObj Lp (rc .busy none)) W3 →
          (Instr.endRound Lp jump).run P W3 = .ok (.bool jump.isNone) (W3.putObj Lp (rc (if jump.isNone then .ready else .done) jump)) ∧ W3.heap[Lp]? = some (rc .busy none) ∧
          (W3.putObj Lp (rc (if jump.isNone then .ready else .done) jump)).heap[Lp]? = some (rc (if jump.isNone then .ready else .done) jump) ∧ (W3.putObj Lp (rc (if jump.isNone then .ready else .done) jump)).heap[D]? = some (.deferred (some [])) := fun jump W3 hk3 => by
        have hl3 := hk3.same _ _ (by omega) hl2 rfl
        exact ⟨run_endRound (P := P) jump hl3, hl3, World.putObj_heap_same (Array.getElem?_eq_some_iff.1 hl3).1, (World.putObj_heap_other (by omega)).trans (hk3.same _ _ (Nat.le_refl _) hk2 rfl)⟩
      rintro e a3 W3 hp
      have leaves : ∀ (c : Code), KeepsFrom w.heap.size (W.putObj Lp (rc .busy none)) W3 ∧ Ix c (pre ++ [x]) W3 → _ := fun c hp => by
        obtain ⟨hr, hl3, hl4, hk4⟩ := fin (some c) W3 hp.1
        exact (⟨_, _, hr, .inr ⟨rfl, c, (hIx c).book _ _ _ _ _ hp.2 (by omega) hl3 rfl, hl4, hk4⟩⟩ : ∃ v W4, (Instr.endRound Lp (some c)).run P W3 = .ok v W4 ∧ ((Ending.returned v = .returned (.bool true) ∧ (I (pre ++ [x]) W4 ∧ W4.heap[Lp]? = some (rc .ready none) ∧ W4.heap[D]? = some (.deferred (some []))) ∧ Kp W W4) ∨
          (Ending.returned v = .returned (.bool false) ∧ ∃ c, Ix c (pre ++ [x]) W4 ∧ W4.heap[Lp]? = some (rc .done (some c)) ∧ W4.heap[D]? = some (.deferred (some [])))))
      cases e with
      | normal =>
        obtain ⟨hk3, hkp3, hi3⟩ := hp
        obtain ⟨hr, hl3, hl4, hk4⟩ := fin none W3 hk3
        exact ⟨_, _, hr, .inl ⟨rfl, ⟨hI.book _ _ _ _ _ hi3 (by omega) hl3 rfl, hl4, hk4⟩, hKt (hKt (hKb _ _ _ _ (by omega) hl rfl) hkp3) (hKb _ _ _ _ (by omega) hl3 rfl)⟩⟩
      | ret => exact leaves .ret hp
      | exit id => exact leaves (.exit id) hp
      | goto t => exact leaves (.goto t) hp
      | panic ch => exact hp.elim
      | outgrown => exact hp.elim
    case behind =>
      rintro e W2 ⟨⟨v, rfl⟩, (⟨xs, hS, hi, hl, hk⟩ | ⟨pre, hSp, c, hi, hl, hk⟩)⟩
      · exact ⟨none, _, run_endLoop (P := P) hl (by simp), hdone _ xs _ (Nat.le_refl _) hS (hI.book _ _ _ _ _ hi (by omega) hl rfl) ((World.putObj_heap_other (by omega)).trans hk)⟩
      · exact ⟨some c, _, run_endLoop (P := P) hl (by simp), hstop _ c pre _ (Nat.le_refl _) hSp ((hIx c).book _ _ _ _ _ hi (by omega) hl rfl) ((World.putObj_heap_other (by omega)).trans hk)⟩

end Go.Proofs.Ytbhpfhggcdccjaa
