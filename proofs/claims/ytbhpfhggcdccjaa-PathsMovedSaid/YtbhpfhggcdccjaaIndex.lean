/- The contracts of the library's search through a slice of segments, with the two questions that the package paths asks. -/
import Derived.Test.YtbhpfhggcdccjaaLine
namespace Go.Proofs.Ytbhpfhggcdccjaa
open Go.RowKit Go.Proofs.WPlain

def sepB (k : Int) : Bool := decide (k = 0 ∨ k = 3)
def badB (k : Int) : Bool := decide (3 < k)

/-- Where the first one is of which that holds; -1: nowhere. -/
def firstAt (p : Int → Bool) : List Sg → Int
  | [] => -1
  | s :: l => if p s.k then 0 else if firstAt p l < 0 then -1 else firstAt p l + 1

theorem ret_bool {a b : Bool} (h : a = b) : Ending.returned (.bool a) = .returned (.bool b) := by rw [h]

set_option maxHeartbeats 1000000 in
theorem sep_any (k a b c d e f : Int) (w : World) :
    Calls Try.prog 18 #[.agg #[.int .u8 k, .int .i32 a, .int .i32 b, .int .i32 c, .int .i32 d, .int .i32 e, .int .i32 f]] w fun e' w' => e' = .returned (.bool (sepB k)) ∧ Below w.heap.size w w' := by
  by_cases h0 : k = 0
  · have e1 : Hid (true = sepB k) := by
      have : true = sepB k := by simp [sepB, h0]
      exact this
    subst h0
    go_enter Try.func18, Try.ntmps18
    go_wp2
    go_ret
    refine ⟨ret_bool e1.out, ?_⟩
    ((repeat (first | (with_reducible refine balloc ?_ _) | (with_reducible refine Below.drew ?_) | (with_reducible refine below_drewN ?_ _) | ((with_reducible refine Below.setCell ?_ ?_ _); rotate_left; focus (first | omega | (simp; done) | (simp; omega))))); with_reducible exact Below.refl _ _)
  · have hk0 : (k == 0) = false := by simp [h0]
    by_cases h3 : k = 3
    · have e1 : Hid (true = sepB k) := by
        have : true = sepB k := by simp [sepB, h3]
        exact this
      subst h3
      go_enter Try.func18, Try.ntmps18
      go_wp2
      go_ret
      refine ⟨ret_bool e1.out, ?_⟩
      ((repeat (first | (with_reducible refine balloc ?_ _) | (with_reducible refine Below.drew ?_) | (with_reducible refine below_drewN ?_ _) | ((with_reducible refine Below.setCell ?_ ?_ _); rotate_left; focus (first | omega | (simp; done) | (simp; omega))))); with_reducible exact Below.refl _ _)
    · have hk3 : (k == 3) = false := by simp [h3]
      have e1 : Hid (false = sepB k) := by
        have : false = sepB k := by simp [sepB, h0, h3]
        exact this
      clear h0 h3
      go_enter Try.func18, Try.ntmps18
      go_wp2
      go_ret
      refine ⟨ret_bool e1.out, ?_⟩
      ((repeat (first | (with_reducible refine balloc ?_ _) | (with_reducible refine Below.drew ?_) | (with_reducible refine below_drewN ?_ _) | ((with_reducible refine Below.setCell ?_ ?_ _); rotate_left; focus (first | omega | (simp; done) | (simp; omega))))); with_reducible exact Below.refl _ _)

set_option maxHeartbeats 1000000 in
theorem bad_any (k a b c d e f : Int) (w : World) :
    Calls Try.prog 12 #[.agg #[.int .u8 k, .int .i32 a, .int .i32 b, .int .i32 c, .int .i32 d, .int .i32 e, .int .i32 f]] w fun e' w' => e' = .returned (.bool (badB k)) ∧ Below w.heap.size w w' := by
  go_enter Try.func12, Try.ntmps12
  go_wp2
  go_ret
  refine ⟨rfl, ?_⟩
  ((repeat (first | (with_reducible refine balloc ?_ _) | (with_reducible refine Below.drew ?_) | (with_reducible refine below_drewN ?_ _) | ((with_reducible refine Below.setCell ?_ ?_ _); rotate_left; focus (first | omega | (simp; done) | (simp; omega))))); with_reducible exact Below.refl _ _)

theorem firstAt_lo (p : Int → Bool) : ∀ l : List Sg, -1 ≤ firstAt p l ∧ firstAt p l < l.length
  | [] => ⟨by simp [firstAt], by simp [firstAt]⟩
  | s :: l => by
    have h := firstAt_lo p l
    have hl : ((s :: l).length : Int) = l.length + 1 := by simp
    rw [hl]
    unfold firstAt
    split
    · omega
    · split <;> omega

theorem firstAt_none (p : Int → Bool) : ∀ l : List Sg, (∀ (j : Nat) (s : Sg), l[j]? = some s → p s.k = false) → firstAt p l = -1
  | [], _ => rfl
  | s :: l, h => by
    have h0 := h 0 s rfl
    have := firstAt_none p l fun j t hj => h (j + 1) t (by simpa using hj)
    simp [firstAt, h0, this]

theorem firstAt_some (p : Int → Bool) : ∀ (l : List Sg) (k : Nat) {s : Sg}, l[k]? = some s → p s.k = true → (∀ (j : Nat) (t : Sg), j < k → l[j]? = some t → p t.k = false) → firstAt p l = k
  | [], k, s, h, _, _ => by simp at h
  | u :: l, 0, s, h, hp, _ => by
    simp at h; subst h; simp [firstAt, hp]
  | u :: l, k + 1, s, h, hp, hn => by
    have h0 := hn 0 u (by omega) rfl
    have := firstAt_some p l k (s := s) (by simpa using h) hp fun j t hj ht => hn (j + 1) t (by omega) (by simpa using ht)
    unfold firstAt
    rw [this, h0]
    simp; omega


set_option maxHeartbeats 2000000 in
theorem indexSep_any (a : Option Addr) (cap : Nat) (l : List Sg) (w : World) (hl : l.length ≤ 1000000) (hs : SegsAt w w.heap.size a l) :
    Calls Try.prog 17 #[.slice a l.length cap, .func (.func 18) #[] #[]] w fun e w' => e = .returned (.int .i64 (firstAt sepB l)) ∧ Below w.heap.size w w' := by
  have eg := enters_of Try.func18 (by kernel_rfl) rfl
  go_enter Try.func17, Try.ntmps17
  go_wp2
  go_loopw [8] (fun i wr => ∃ k : Nat, k ≤ l.length ∧ i = .int .i64 k ∧ Hid (∀ (j : Nat) (s : Sg), j < k → l[j]? = some s → sepB s.k = false) ∧ Hid (Below w.heap.size w wr)) (fun i _ => l.length - (intOf i).toNat)
  case atStart => exact ⟨0, Nat.zero_le _, rfl, fun j s hj => by omega, Below.refl _ _⟩
  case round =>
    obtain ⟨k, hk, rfl, hn, hB⟩ := hrel
    by_cases hlt : k < l.length
    · obtain ⟨s, hsk⟩ : ∃ s, l[k]? = some s := ⟨_, List.getElem?_eq_getElem hlt⟩
      obtain ⟨b, off, rfl, hbl, hcs⟩ : ∃ b off : Nat, a = some ⟨b, off, none⟩ ∧ b < w.heap.size ∧ ∀ (j : Nat) (v : Value), s.vals[j]? = some v → wr.cell? ⟨b, off + k * 7 + j, none⟩ = some v := by
        rcases hs.below hB.out with h | ⟨b, off, ha, hbl, hc⟩
        · subst h; simp at hlt
        · exact ⟨b, off, ha, hbl, hc k s hsk⟩
      have HSK := Lib.hid hsk
      clear hsk
      obtain ⟨K, A, B, C, D, E, F⟩ := s
      have c0 : wr.cell? ⟨b, off + k * 7, none⟩ = some (.int .u8 K) := hcs 0 _ rfl
      have c1 : wr.cell? ⟨b, off + k * 7 + 1, none⟩ = some (.int .i32 A) := hcs 1 _ rfl
      have c2 : wr.cell? ⟨b, off + k * 7 + 2, none⟩ = some (.int .i32 B) := hcs 2 _ rfl
      have c3 : wr.cell? ⟨b, off + k * 7 + 3, none⟩ = some (.int .i32 C) := hcs 3 _ rfl
      have c4 : wr.cell? ⟨b, off + k * 7 + 4, none⟩ = some (.int .i32 D) := hcs 4 _ rfl
      have c5 : wr.cell? ⟨b, off + k * 7 + 5, none⟩ = some (.int .i32 E) := hcs 5 _ rfl
      have c6 : wr.cell? ⟨b, off + k * 7 + 6, none⟩ = some (.int .i32 F) := hcs 6 _ rfl
      clear hcs hs
      have P := sep_any K A B C D E F
      cases hp : sepB K with
      | true =>
        rw [hp] at P
        have hr : Hid ((k : Int) = firstAt sepB l) := (firstAt_some sepB l k HSK.out hp hn.out).symm
        clear hp
        go_wp2_with (go_at_call 18; (with_reducible refine (P _).mono ?_); rintro e w1 ⟨rfl, hb⟩; have B1 := Lib.hid (joinB hB.out hb); clear hb)
        go_ret
        exact ⟨ret_i hr.out, B1.out⟩
      | false =>
        rw [hp] at P
        have hn' : Hid (∀ (j : Nat) (s : Sg), j < k + 1 → l[j]? = some s → sepB s.k = false) := by
          have h : ∀ (j : Nat) (s : Sg), j < k + 1 → l[j]? = some s → sepB s.k = false := fun j s hj hjs => by
            by_cases e : j = k
            · subst e; have := HSK.out; rw [this] at hjs; cases hjs; exact hp
            · exact hn.out j s (by omega) hjs
          exact h
        clear hp
        go_wp2_with (go_at_call 18; (with_reducible refine (P _).mono ?_); rintro e w1 ⟨rfl, hb⟩; have B1 := Lib.hid (joinB hB.out hb); clear hb)
        go_roundw
        case rel => exact ⟨k + 1, hlt, by go_num, hn', B1⟩
        case measure => simp [intOf]; omega
    · have hr : Hid ((-1 : Int) = firstAt sepB l) := (firstAt_none sepB l fun j s hjs => hn.out j s (by have := (List.getElem?_eq_some_iff.1 hjs).1; omega) hjs).symm
      go_wp2
      go_ret
      exact ⟨ret_i hr.out, hB.out⟩

set_option maxHeartbeats 2000000 in
theorem indexBad_any (a : Option Addr) (cap : Nat) (l : List Sg) (w : World) (hl : l.length ≤ 1000000) (hs : SegsAt w w.heap.size a l) :
    Calls Try.prog 17 #[.slice a l.length cap, .func (.func 12) #[] #[]] w fun e w' => e = .returned (.int .i64 (firstAt badB l)) ∧ Below w.heap.size w w' := by
  have eg := enters_of Try.func12 (by kernel_rfl) rfl
  go_enter Try.func17, Try.ntmps17
  go_wp2
  go_loopw [8] (fun i wr => ∃ k : Nat, k ≤ l.length ∧ i = .int .i64 k ∧ Hid (∀ (j : Nat) (s : Sg), j < k → l[j]? = some s → badB s.k = false) ∧ Hid (Below w.heap.size w wr)) (fun i _ => l.length - (intOf i).toNat)
  case atStart => exact ⟨0, Nat.zero_le _, rfl, fun j s hj => by omega, Below.refl _ _⟩
  case round =>
    obtain ⟨k, hk, rfl, hn, hB⟩ := hrel
    by_cases hlt : k < l.length
    · obtain ⟨s, hsk⟩ : ∃ s, l[k]? = some s := ⟨_, List.getElem?_eq_getElem hlt⟩
      obtain ⟨b, off, rfl, hbl, hcs⟩ : ∃ b off : Nat, a = some ⟨b, off, none⟩ ∧ b < w.heap.size ∧ ∀ (j : Nat) (v : Value), s.vals[j]? = some v → wr.cell? ⟨b, off + k * 7 + j, none⟩ = some v := by
        rcases hs.below hB.out with h | ⟨b, off, ha, hbl, hc⟩
        · subst h; simp at hlt
        · exact ⟨b, off, ha, hbl, hc k s hsk⟩
      have HSK := Lib.hid hsk
      clear hsk
      obtain ⟨K, A, B, C, D, E, F⟩ := s
      have c0 : wr.cell? ⟨b, off + k * 7, none⟩ = some (.int .u8 K) := hcs 0 _ rfl
      have c1 : wr.cell? ⟨b, off + k * 7 + 1, none⟩ = some (.int .i32 A) := hcs 1 _ rfl
      have c2 : wr.cell? ⟨b, off + k * 7 + 2, none⟩ = some (.int .i32 B) := hcs 2 _ rfl
      have c3 : wr.cell? ⟨b, off + k * 7 + 3, none⟩ = some (.int .i32 C) := hcs 3 _ rfl
      have c4 : wr.cell? ⟨b, off + k * 7 + 4, none⟩ = some (.int .i32 D) := hcs 4 _ rfl
      have c5 : wr.cell? ⟨b, off + k * 7 + 5, none⟩ = some (.int .i32 E) := hcs 5 _ rfl
      have c6 : wr.cell? ⟨b, off + k * 7 + 6, none⟩ = some (.int .i32 F) := hcs 6 _ rfl
      clear hcs hs
      have P := bad_any K A B C D E F
      cases hp : badB K with
      | true =>
        rw [hp] at P
        have hr : Hid ((k : Int) = firstAt badB l) := (firstAt_some badB l k HSK.out hp hn.out).symm
        clear hp
        go_wp2_with (go_at_call 12; (with_reducible refine (P _).mono ?_); rintro e w1 ⟨rfl, hb⟩; have B1 := Lib.hid (joinB hB.out hb); clear hb)
        go_ret
        exact ⟨ret_i hr.out, B1.out⟩
      | false =>
        rw [hp] at P
        have hn' : Hid (∀ (j : Nat) (s : Sg), j < k + 1 → l[j]? = some s → badB s.k = false) := by
          have h : ∀ (j : Nat) (s : Sg), j < k + 1 → l[j]? = some s → badB s.k = false := fun j s hj hjs => by
            by_cases e : j = k
            · subst e; have := HSK.out; rw [this] at hjs; cases hjs; exact hp
            · exact hn.out j s (by omega) hjs
          exact h
        clear hp
        go_wp2_with (go_at_call 12; (with_reducible refine (P _).mono ?_); rintro e w1 ⟨rfl, hb⟩; have B1 := Lib.hid (joinB hB.out hb); clear hb)
        go_roundw
        case rel => exact ⟨k + 1, hlt, by go_num, hn', B1⟩
        case measure => simp [intOf]; omega
    · have hr : Hid ((-1 : Int) = firstAt badB l) := (firstAt_none badB l fun j s hjs => hn.out j s (by have := (List.getElem?_eq_some_iff.1 hjs).1; omega) hjs).symm
      go_wp2
      go_ret
      exact ⟨ret_i hr.out, hB.out⟩

set_option maxHeartbeats 1000000 in
theorem containsBad_any (a : Option Addr) (cap : Nat) (l : List Sg) (w : World) (hl : l.length ≤ 1000000) (hs : SegsAt w w.heap.size a l) :
    Calls Try.prog 11 #[.slice a l.length cap, .func (.func 12) #[] #[]] w fun e w' => e = .returned (.bool (decide (0 ≤ firstAt badB l))) ∧ Below w.heap.size w w' := by
  have I := indexBad_any a cap l w hl hs
  go_enter Try.func11, Try.ntmps11
  go_wp2_with (go_at_call 17; (with_reducible refine I.mono ?_); rintro e w1 ⟨rfl, hb⟩; have B1 := Lib.hid hb; clear hb)
  go_ret
  exact ⟨rfl, B1.out⟩

end Go.Proofs.Ytbhpfhggcdccjaa
