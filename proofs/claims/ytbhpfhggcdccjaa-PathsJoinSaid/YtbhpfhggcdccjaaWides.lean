/- The contracts of the package wides of the program: numbers of 128 bits, as integers. -/
import Derived.WalkKit
import Derived.WalkSpells
import Derived.WalkLawsBesides
import Derived.Deep.QuietTactic
import Derived.BigQuiet
import Derived.Outline
import Derived.Deep.DeepCutAuto
import Derived.Deep.CutBlock
import Derived.Deep.RegionHeld3
import Derived.WalkSmall
import Derived.Lib.Hide
import Derived.LoopN
import Derived.Shelf.Spec.BitsCarry
import Derived.Test.YtbhpfhggcdccjaaProg
import Derived.Test.YtbhpfhggcdccjaaDiv
namespace Go.Proofs.Ytbhpfhggcdccjaa
open Go.RowKit Go.Proofs.WPlain

/-- A store makes no cell, and lets none go. -/
@[go_sem] theorem isSome_setCell (w : World) (a b : Addr) (v : Value) : ((w.setCell a v).cell? b).isSome = (w.cell? b).isSome := by
  by_cases hab : a = b
  · subst hab
    cases h : w.cell? a with
    | some u => rw [World.cell?_setCell_same w a v h]; rfl
    | none =>
      simp only [World.setCell, World.cell?, Array.getElem?_modify] at h ⊢
      cases hh : w.heap[a.block]? with
      | none => simp [hh] at h ⊢
      | some x => cases x <;> simp_all
  · rw [World.cell?_setCell_other w a b v hab]

/-- The two words of a number of 128 bits. -/
def hiW (z : Int) : Int := z / 18446744073709551616
def loW (z : Int) : Int := z % 18446744073709551616

theorem loW_b (z : Int) : 0 ≤ loW z ∧ loW z ≤ 18446744073709551615 := by unfold loW; omega
theorem hiW_b (z : Int) (h0 : -170141183460469231731687303715884105728 ≤ z) (h1 : z < 170141183460469231731687303715884105728) : -9223372036854775808 ≤ hiW z ∧ hiW z ≤ 9223372036854775807 := by unfold hiW; omega
theorem hiloW (z : Int) : hiW z * 18446744073709551616 + loW z = z := by unfold hiW loW; omega

theorem xor_max (x : Int) (h0 : 0 ≤ x) (h1 : x ≤ 18446744073709551615) : bits .xor .u64 IntKind.u64.max x = 18446744073709551615 - x := by
  obtain ⟨n, rfl⟩ : ∃ n : Nat, x = n := ⟨x.toNat, by omega⟩
  have e : (BitVec.ofInt 64 (n : Int)).toNat = n := by
    rw [BitVec.ofInt_natCast, BitVec.toNat_ofNat]; exact Nat.mod_eq_of_lt (by omega)
  have a : BitVec.ofInt 64 IntKind.u64.max = BitVec.allOnes 64 := by decide
  show IntKind.u64.wrap ((BitVec.ofInt 64 IntKind.u64.max ^^^ BitVec.ofInt 64 (n : Int)).toNat : Int) = _
  rw [a, BitVec.allOnes_xor, BitVec.toNat_not, e, IntKind.wrap_u64]
  omega

theorem ret_words {a b c d e f : Int} (h1 : a = d) (h2 : b = e) (h3 : c = f) : Ending.returned (.agg #[.int .u64 a, .int .u64 b, .int .u64 c]) = .returned (.agg #[.int .u64 d, .int .u64 e, .int .u64 f]) := by rw [h1, h2, h3]
theorem ret_wide {a b c d : Int} (h1 : a = c) (h2 : b = d) : Ending.returned (.agg #[.int .i64 a, .int .u64 b]) = .returned (.agg #[.int .i64 c, .int .u64 d]) := by rw [h1, h2]
theorem ret_wide_e {a b c d e : Int} (h1 : a = c) (h2 : b = d) : Ending.returned (.tuple #[.agg #[.int .i64 a, .int .u64 b], .int .i64 e]) = .returned (.tuple #[.agg #[.int .i64 c, .int .u64 d], .int .i64 e]) := by rw [h1, h2]

theorem balloc {a w : World} (h : Below a.heap.size a w) (o : Obj) : Below a.heap.size a (w.alloc o) := h.alloc h.size o
theorem joinB {a X w1 : World} (h : Below a.heap.size a X) (hb : Below X.heap.size X w1) : Below a.heap.size a w1 := h.trans (hb.mono h.size)

/-- What lies below a mark is read as before. -/
theorem bcell {W w1 : World} (hb : Below W.heap.size W w1) : (∀ b o, b < W.heap.size → w1.cell? ⟨b, o, none⟩ = W.cell? ⟨b, o, none⟩) ∧ (∀ b o, b < W.heap.size → w1.frozen? ⟨b, o, none⟩ = W.frozen? ⟨b, o, none⟩) :=
  ⟨fun b o h => hb.cell (p := ⟨b, o, none⟩) h, fun b o h => hb.frozen (p := ⟨b, o, none⟩) h⟩

theorem add64_run (x y c : Int) (x0 : 0 ≤ x) (y0 : 0 ≤ y) (c0 : 0 ≤ c) (c1 : c ≤ 1) (x1 : x ≤ 18446744073709551615) (y1 : y ≤ 18446744073709551615) (w : World) :
    (callFunc 35 #[.int .u64 x, .int .u64 y, .int .u64 c]).run Try.prog w = .ok (.value (.tuple #[.int .u64 ((x + y + c) % 18446744073709551616), .int .u64 ((x + y + c) / 18446744073709551616)])) w := by
  obtain ⟨m, rfl⟩ : ∃ n : Nat, x = n := ⟨x.toNat, by omega⟩
  obtain ⟨n, rfl⟩ : ∃ n : Nat, y = n := ⟨y.toNat, by omega⟩
  obtain ⟨k, rfl⟩ : ∃ n : Nat, c = n := ⟨c.toNat, by omega⟩
  rw [run_callFunc_extern Try.func35 (by kernel_rfl) (by kernel_rfl) (by kernel_rfl) (e := add64Entry) (by kernel_rfl), run_add64 m n k (by omega) (by omega) (by omega) (by omega)]
  simp only [Result.andThen]

theorem sub64_run (x y c : Int) (x0 : 0 ≤ x) (y0 : 0 ≤ y) (c0 : 0 ≤ c) (c1 : c ≤ 1) (x1 : x ≤ 18446744073709551615) (y1 : y ≤ 18446744073709551615) (w : World) :
    (callFunc 38 #[.int .u64 x, .int .u64 y, .int .u64 c]).run Try.prog w = .ok (.value (.tuple #[.int .u64 ((x - y - c) % 18446744073709551616), .int .u64 (if x < y + c then 1 else 0)])) w := by
  obtain ⟨m, rfl⟩ : ∃ n : Nat, x = n := ⟨x.toNat, by omega⟩
  obtain ⟨n, rfl⟩ : ∃ n : Nat, y = n := ⟨y.toNat, by omega⟩
  obtain ⟨k, rfl⟩ : ∃ n : Nat, c = n := ⟨c.toNat, by omega⟩
  rw [run_callFunc_extern Try.func38 (by kernel_rfl) (by kernel_rfl) (by kernel_rfl) (e := sub64Entry) (by kernel_rfl), run_sub64 m n k (by omega)]
  simp only [Result.andThen]
  have e1 : (((m + 18446744073709551616 - n - k) % 18446744073709551616 : Nat) : Int) = ((m : Int) - n - k) % 18446744073709551616 := by omega
  have e2 : ((if m < n + k then 1 else 0 : Nat) : Int) = if (m : Int) < n + k then 1 else 0 := by split <;> split <;> omega
  rw [e1, e2]

set_option maxHeartbeats 400000 in
theorem of_any (n : Int) (w : World) (h0 : -9223372036854775808 ≤ n) (h1 : n ≤ 9223372036854775807) :
    Calls Try.prog 27 #[.int .i64 n] w fun e w' => e = .returned (.agg #[.int .i64 (hiW n), .int .u64 (loW n)]) ∧ Below w.heap.size w w' := by
  have e1 : Hid (n / 9223372036854775808 = hiW n) := by have : n / 9223372036854775808 = hiW n := by unfold hiW; omega
                                                        exact this
  have e2 : Hid (IntKind.u64.wrap n = loW n) := by have : IntKind.u64.wrap n = loW n := by rw [IntKind.wrap_u64]; rfl
                                                   exact this
  go_enter Try.func27, Try.ntmps27
  go_wp2
  refine bodyPost_ret (v := .agg #[.int .i64 (n / 9223372036854775808), .int .u64 (IntKind.u64.wrap n)]) (by simp [results, Try.results27, go_sem]) rfl ⟨ret_wide e1.out e2.out, ?_⟩
  exact (Below.refl _ _).alloc (Nat.le_refl _) _

set_option maxHeartbeats 1000000 in
/-- Taken away of 2^128: the third word counts for nothing. -/
theorem turned_any (l h t : Int) (w : World) (l0 : 0 ≤ l) (l1 : l ≤ 18446744073709551615) (h0 : 0 ≤ h) (h1 : h ≤ 18446744073709551615) :
    Calls Try.prog 36 #[.agg #[.int .u64 l, .int .u64 h, .int .u64 t]] w fun e w' =>
      e = .returned (.agg #[.int .u64 (loW (-(h * 18446744073709551616 + l))), .int .u64 (loW (hiW (-(h * 18446744073709551616 + l)))), .int .u64 0]) ∧ Below w.heap.size w w' := by
  have hsg : IntKind.u64.signed = false := rfl
  obtain ⟨c, hc⟩ : ∃ c : Int, 18446744073709551615 - l = c := ⟨_, rfl⟩
  obtain ⟨d, hd⟩ : ∃ d : Int, 18446744073709551615 - h = d := ⟨_, rfl⟩
  have x1 := xor_max l l0 l1
  have x2 := xor_max h h0 h1
  rw [hc] at x1; rw [hd] at x2
  obtain ⟨s1, hs1⟩ : ∃ s : Int, (c + 0 + 1) % 18446744073709551616 = s := ⟨_, rfl⟩
  obtain ⟨k1, hk1⟩ : ∃ s : Int, (c + 0 + 1) / 18446744073709551616 = s := ⟨_, rfl⟩
  obtain ⟨s2, hs2⟩ : ∃ s : Int, (d + 0 + k1) % 18446744073709551616 = s := ⟨_, rfl⟩
  obtain ⟨k2, hk2⟩ : ∃ s : Int, (d + 0 + k1) / 18446744073709551616 = s := ⟨_, rfl⟩
  have A1 : ∀ w, (callFunc 35 #[.int .u64 c, .int .u64 0, .int .u64 1]).run Try.prog w = .ok (.value (.tuple #[.int .u64 s1, .int .u64 k1])) w := fun w => by
    rw [add64_run c 0 1 (by omega) (by omega) (by omega) (by omega) (by omega) (by omega), hs1, hk1]
  have A2 : ∀ w, (callFunc 35 #[.int .u64 d, .int .u64 0, .int .u64 k1]).run Try.prog w = .ok (.value (.tuple #[.int .u64 s2, .int .u64 k2])) w := fun w => by
    rw [add64_run d 0 k1 (by omega) (by omega) (by omega) (by omega) (by omega) (by omega), hs2, hk2]
  have E1 : Hid (s1 = loW (-(h * 18446744073709551616 + l))) := by
    have : s1 = loW (-(h * 18446744073709551616 + l)) := by unfold loW; omega
    exact this
  have E2 : Hid (s2 = loW (hiW (-(h * 18446744073709551616 + l)))) := by
    have : s2 = loW (hiW (-(h * 18446744073709551616 + l))) := by unfold loW hiW; omega
    exact this
  clear hs1 hs2 hk1 hk2 hc hd
  go_enter Try.func36, Try.ntmps36
  go_wp2
  refine wp_loop_rounds 3 ?_
  rw [rounds_succ]
  go_wp2
  rw [rounds_succ]
  go_wp2
  rw [rounds_succ]
  go_wp2
  refine bodyPost_ret (v := .agg #[.int .u64 s1, .int .u64 s2, .int .u64 0]) (by simp [results, Try.results36, go_sem]) rfl ⟨ret_words E1.out E2.out rfl, ?_⟩
  exact ((Below.refl _ _).alloc (Nat.le_refl _) _).alloc (by simp) _

theorem ret_parted {x : Bool} {a b c d e f : Int} (h1 : a = d) (h2 : b = e) (h3 : c = f) : Ending.returned (.agg #[.bool x, .int .u64 a, .int .u64 b, .int .u64 c]) = .returned (.agg #[.bool x, .int .u64 d, .int .u64 e, .int .u64 f]) := by rw [h1, h2, h3]

set_option maxHeartbeats 1000000 in
theorem part_pos (z : Int) (w : World) (z0 : 0 ≤ z) (z1 : z < 170141183460469231731687303715884105728) :
    Calls Try.prog 31 #[.agg #[.int .i64 (hiW z), .int .u64 (loW z)]] w fun e w' => e = .returned (.agg #[.bool false, .int .u64 (loW z), .int .u64 (hiW z), .int .u64 0]) ∧ Below w.heap.size w w' := by
  have hh0 : 0 ≤ hiW z := by unfold hiW; omega
  have hh1 := (hiW_b z (by omega) z1).2
  obtain ⟨l0, l1⟩ := loW_b z
  generalize hiW z = h at *
  generalize loW z = l at *
  clear z0 z1
  go_enter Try.func31, Try.ntmps31
  go_wp2
  refine bodyPost_ret (v := .agg #[.bool false, .int .u64 l, .int .u64 h, .int .u64 0]) (by simp [results, Try.results31, go_sem]; omega) rfl ⟨rfl, ?_⟩
  exact (((Below.refl _ _).alloc (Nat.le_refl _) _).alloc (by simp) _).alloc (by simp; omega) _

set_option maxHeartbeats 1000000 in
theorem part_neg (z : Int) (w : World) (z0 : z < 0) (z1 : -170141183460469231731687303715884105728 < z) :
    Calls Try.prog 31 #[.agg #[.int .i64 (hiW z), .int .u64 (loW z)]] w fun e w' => e = .returned (.agg #[.bool true, .int .u64 (loW (-z)), .int .u64 (hiW (-z)), .int .u64 0]) ∧ Below w.heap.size w w' := by
  have hh0 : hiW z < 0 := by unfold hiW; omega
  have hh1 := (hiW_b z (by omega) (by omega)).1
  obtain ⟨l0, l1⟩ := loW_b z
  have hz := hiloW z
  generalize hiW z = h at *
  generalize loW z = l at *
  obtain ⟨u, hu⟩ : ∃ u : Int, IntKind.u64.wrap h = u := ⟨_, rfl⟩
  have hu' := hu
  rw [IntKind.wrap_u64] at hu'
  have T := turned_any l u 0
  have E1 : Hid (loW (-(u * 18446744073709551616 + l)) = loW (-z)) := by
    have : loW (-(u * 18446744073709551616 + l)) = loW (-z) := by unfold loW; omega
    exact this
  have E2 : Hid (loW (hiW (-(u * 18446744073709551616 + l))) = hiW (-z)) := by
    have : loW (hiW (-(u * 18446744073709551616 + l))) = hiW (-z) := by unfold loW hiW; omega
    exact this
  have u0 : 0 ≤ u := by omega
  have u1 : u ≤ 18446744073709551615 := by omega
  clear hu' hz z0 z1
  go_enter Try.func31, Try.ntmps31
  go_wp2_with (go_at_call 36; refine (T _ l0 l1 u0 u1).mono ?_; rintro e w1 ⟨rfl, hb⟩; obtain ⟨hc, hf⟩ := bcell hb; have hz := hb.size)
  refine bodyPost_ret (v := .agg #[.bool true, .int .u64 (loW (-(u * 18446744073709551616 + l))), .int .u64 (loW (hiW (-(u * 18446744073709551616 + l)))), .int .u64 0])
    (by simp [results, Try.results31, go_sem, hc]) rfl ⟨ret_parted E1.out E2.out rfl, ?_⟩
  (((repeat (first | (with_reducible refine balloc ?_ _) | (with_reducible refine Below.drew ?_) | (with_reducible refine below_drewN ?_ _) | ((with_reducible refine Below.setCell ?_ ?_ _); rotate_left; focus (first | omega | (simp; done) | (simp; omega))))); refine joinB ?_ hb; (repeat (first | (with_reducible refine balloc ?_ _) | (with_reducible refine Below.drew ?_) | (with_reducible refine below_drewN ?_ _) | ((with_reducible refine Below.setCell ?_ ?_ _); rotate_left; focus (first | omega | (simp; done) | (simp; omega))))); with_reducible exact Below.refl _ _))

set_option maxHeartbeats 1000000 in
theorem whole_pos (m : Int) (w : World) (m0 : 0 ≤ m) (m1 : m < 170141183460469231731687303715884105728) :
    Calls Try.prog 33 #[.agg #[.bool false, .int .u64 (loW m), .int .u64 (hiW m), .int .u64 0]] w fun e w' => e = .returned (.tuple #[.agg #[.int .i64 (hiW m), .int .u64 (loW m)], .int .i64 0]) ∧ Below w.heap.size w w' := by
  have hh0 : 0 ≤ hiW m := by unfold hiW; omega
  have hh1 := (hiW_b m (by omega) m1).2
  obtain ⟨l0, l1⟩ := loW_b m
  generalize hiW m = h at *
  generalize loW m = l at *
  have hz : h / 9223372036854775808 = 0 := by omega
  clear m0 m1
  go_enter Try.func33, Try.ntmps33
  go_wp2
  refine bodyPost_ret (v := .tuple #[.agg #[.int .i64 h, .int .u64 l], .int .i64 0]) (by simp [results, Try.results33, go_sem]) rfl ⟨rfl, ?_⟩
  ((repeat (first | (with_reducible refine balloc ?_ _) | (with_reducible refine Below.drew ?_) | (with_reducible refine below_drewN ?_ _) | ((with_reducible refine Below.setCell ?_ ?_ _); rotate_left; focus (first | omega | (simp; done) | (simp; omega))))); with_reducible exact Below.refl _ _)

theorem eq_words (a b c d e f : Int) (w : World) : (Op.equalIn 9999 77 (.agg #[.int .u64 a, .int .u64 b, .int .u64 c]) (.agg #[.int .u64 d, .int .u64 e, .int .u64 f])).run Try.prog w = .ok (a == d && b == e && c == f) w := by
  have u3 := Try.underlying64
  have a3 := Try.isAgg64
  have z3 := Try.sizeOf64
  rw [show (9999 : Nat) = 9998 + 1 from rfl, Op.equalIn]
  simp only [Sem.run_bind, run_underlying Try.underlying77, Result.andThen_ok]
  simp only [Std.Legacy.Range.forIn_eq_forIn_range', Std.Legacy.Range.size, Nat.sub_zero, Nat.add_sub_cancel, Nat.div_one, List.range'_succ, List.range'_zero, List.forIn_cons, List.forIn_nil]
  go_simp
  by_cases h1 : a = d <;> by_cases h2 : b = e <;> by_cases h3 : c = f <;> simp [h1, h2, h3]

set_option maxHeartbeats 1000000 in
theorem whole_neg (m : Int) (w : World) (m0 : 0 ≤ m) (m1 : m < 170141183460469231731687303715884105728) :
    Calls Try.prog 33 #[.agg #[.bool true, .int .u64 (loW m), .int .u64 (hiW m), .int .u64 0]] w fun e w' => e = .returned (.tuple #[.agg #[.int .i64 (hiW (-m)), .int .u64 (loW (-m))], .int .i64 0]) ∧ Below w.heap.size w w' := by
  have hh0 : 0 ≤ hiW m := by unfold hiW; omega
  have hh1 := (hiW_b m (by omega) m1).2
  obtain ⟨l0, l1⟩ := loW_b m
  have hm := hiloW m
  generalize hiW m = h at *
  generalize loW m = l at *
  have hz : h / 9223372036854775808 = 0 := by omega
  have hz' : ∀ w, (Op.equalIn 9999 77 (.agg #[.int .u64 l, .int .u64 h, .int .u64 0]) (.agg #[.int .u64 0, .int .u64 9223372036854775808, .int .u64 0])).run Try.prog w = .ok false w := fun w => by
    rw [eq_words, show (h == 9223372036854775808) = false by simp; omega]; simp
  have T := turned_any l h 0
  obtain ⟨p, hp⟩ : ∃ p : Int, loW (-(h * 18446744073709551616 + l)) = p := ⟨_, rfl⟩
  obtain ⟨q, hq⟩ : ∃ p : Int, loW (hiW (-(h * 18446744073709551616 + l))) = p := ⟨_, rfl⟩
  rw [hp, hq] at T
  have E1 : Hid (p = loW (-m)) := by
    have : p = loW (-m) := by rw [← hp]; unfold loW; omega
    exact this
  obtain ⟨u, hu⟩ : ∃ u : Int, IntKind.i64.wrap q = u := ⟨_, rfl⟩
  obtain ⟨q0, q1⟩ := loW_b (hiW (-(h * 18446744073709551616 + l)))
  rw [hq] at q0 q1
  have E2 : Hid (u = hiW (-m)) := by
    have : u = hiW (-m) := by
      rw [← hu, ← hq, IntKind.wrap_i64]; unfold loW hiW; omega
    exact this
  clear hp hq hm m0 m1
  go_enter Try.func33, Try.ntmps33
  go_wp2_with (go_at_call 36; refine (T _ l0 l1 hh0 (by omega)).mono ?_; rintro e w1 ⟨rfl, hb⟩; obtain ⟨hc, hf⟩ := bcell hb; have c1 : w1.cell? ⟨w.heap.size, 1, none⟩ = some (.int .u64 l) := (hc _ _ (by first | omega | (simp; done) | (simp; omega))).trans (by go_simp); have c2 : w1.cell? ⟨w.heap.size, 2, none⟩ = some (.int .u64 h) := (hc _ _ (by first | omega | (simp; done) | (simp; omega))).trans (by go_simp); have c3 : w1.cell? ⟨w.heap.size, 3, none⟩ = some (.int .u64 0) := (hc _ _ (by first | omega | (simp; done) | (simp; omega))).trans (by go_simp))
  have c4 : w1.cell? ⟨w.heap.size + 1, 0, none⟩ = some (.int .i64 0) := (hc _ _ (by first | omega | (simp; done) | (simp; omega))).trans (by go_simp)
  have c5 : w1.cell? ⟨w.heap.size + 1, 1, none⟩ = some (.int .u64 0) := (hc _ _ (by first | omega | (simp; done) | (simp; omega))).trans (by go_simp)
  refine bodyPost_ret (v := .tuple #[.agg #[.int .i64 u, .int .u64 p], .int .i64 0]) (by simp [results, Try.results33, go_sem, c4, c5]) rfl ⟨ret_wide_e E2.out E1.out, ?_⟩
  (((repeat (first | (with_reducible refine balloc ?_ _) | (with_reducible refine Below.drew ?_) | (with_reducible refine below_drewN ?_ _) | ((with_reducible refine Below.setCell ?_ ?_ _); rotate_left; focus (first | omega | (simp; done) | (simp; omega))))); refine joinB ?_ hb; (repeat (first | (with_reducible refine balloc ?_ _) | (with_reducible refine Below.drew ?_) | (with_reducible refine below_drewN ?_ _) | ((with_reducible refine Below.setCell ?_ ?_ _); rotate_left; focus (first | omega | (simp; done) | (simp; omega))))); with_reducible exact Below.refl _ _))

end Go.Proofs.Ytbhpfhggcdccjaa
