/-
  Contracts of the small functions of package gauges: round, Count, Length, Measure, nearest.
-/
import Derived.Test.YtknkpmckgaloaaaRows
import Derived.Test.YtknkpmckgaloaaaLib
namespace Go.Proofs.Ytknkpmckgaloaaa
open Go.RowKit

def rnd (a b : Int) : Int := (2 * a + b) / (2 * b)

def countOk (per mm : Int) : Prop := 1 ≤ per ∧ per ≤ 400 ∧ 0 ≤ mm ∧ mm ≤ 20000
def lengthOk (per n : Int) : Prop := 1 ≤ per ∧ per ≤ 400 ∧ 0 ≤ n ∧ n ≤ 80000

abbrev two (a b : Int) : Value := .tuple #[.int .i64 a, .int .i64 b]

set_option maxHeartbeats 400000 in
theorem round_any (a b : Int) (w : World) (ha : 0 ≤ a) (ha' : a ≤ 1000000000000000) (hb : 1 ≤ b) (hb' : b ≤ 1000000000000000) :
    Calls Try.prog 20 #[.int .i64 a, .int .i64 b] w fun e w' => e = .returned (.int .i64 (rnd a b)) ∧ w = w' := by
  go_enter Try.func20, Try.ntmps20
  go_wp2
  go_ret
  exact ⟨rfl, rfl⟩

theorem mul_bd (a b A B : Int) (h : 0 ≤ a) (h1 : a ≤ A) (h2 : 0 ≤ b) (h3 : b ≤ B) : 0 ≤ a * b ∧ a * b ≤ A * B :=
  ⟨Int.mul_nonneg h h2, Int.mul_le_mul h1 h3 h2 (Int.le_trans h h1)⟩

set_option maxHeartbeats 400000 in
theorem count_yes (per mm : Int) (w : World) (h : countOk per mm) :
    Calls Try.prog 10 #[.int .i64 per, .int .i64 mm] w fun e w' => e = .returned (two (rnd (per * mm) 100) 0) ∧ w = w' := by
  obtain ⟨h1, h2, h3, h4⟩ := h
  obtain ⟨m1, m2⟩ := mul_bd per mm 400 20000 (by omega) h2 h3 h4
  go_enter Try.func10, Try.ntmps10
  go_wp2_with (go_at_call 20; refine (round_any _ _ _ m1 (by omega) (by omega) (by omega)).mono ?_; rintro e w' ⟨rfl, rfl⟩)
  go_ret2
  exact ⟨rfl, rfl⟩

set_option maxHeartbeats 400000 in
theorem count_no (per mm : Int) (w : World) (h : ¬ countOk per mm) :
    Calls Try.prog 10 #[.int .i64 per, .int .i64 mm] w fun e w' => e = .returned (two 0 1) ∧ w = w' := by
  have H := Lib.hid h
  clear h
  go_enter Try.func10, Try.ntmps10
  go_wp2_with (go_at_call 20; exact absurd ⟨by omega, by omega, by omega, by omega⟩ H.out)
  all_goals
    go_ret2
    exact ⟨rfl, rfl⟩

set_option maxHeartbeats 400000 in
theorem length_yes (per n : Int) (w : World) (h : lengthOk per n) :
    Calls Try.prog 11 #[.int .i64 per, .int .i64 n] w fun e w' => e = .returned (two (rnd (100 * n) per) 0) ∧ w = w' := by
  obtain ⟨h1, h2, h3, h4⟩ := h
  go_enter Try.func11, Try.ntmps11
  go_wp2_with (go_at_call 20; refine (round_any _ _ _ (by omega) (by omega) (by omega) (by omega)).mono ?_; rintro e w' ⟨rfl, rfl⟩)
  go_ret2
  exact ⟨rfl, rfl⟩

set_option maxHeartbeats 400000 in
theorem length_no (per n : Int) (w : World) (h : ¬ lengthOk per n) :
    Calls Try.prog 11 #[.int .i64 per, .int .i64 n] w fun e w' => e = .returned (two 0 1) ∧ w = w' := by
  have H := Lib.hid h
  clear h
  go_enter Try.func11, Try.ntmps11
  go_wp2_with (go_at_call 20; exact absurd ⟨by omega, by omega, by omega, by omega⟩ H.out)
  all_goals
    go_ret2
    exact ⟨rfl, rfl⟩

def measureOk (n mm : Int) : Prop := 0 ≤ n ∧ n ≤ 80000 ∧ 1 ≤ mm ∧ mm ≤ 20000 ∧ 1 ≤ rnd (100 * n) mm ∧ rnd (100 * n) mm ≤ 400

theorem rnd_bd (a b : Int) (ha : 0 ≤ a) (hb : 1 ≤ b) : 0 ≤ rnd a b ∧ rnd a b ≤ 2 * a + b := by
  unfold rnd
  exact ⟨Int.ediv_nonneg (by omega) (by omega), Int.le_trans (Int.ediv_le_self _ (by omega)) (by omega)⟩

set_option maxHeartbeats 400000 in
theorem measure_yes (n mm : Int) (w : World) (h : measureOk n mm) :
    Calls Try.prog 12 #[.int .i64 n, .int .i64 mm] w fun e w' => e = .returned (two (rnd (100 * n) mm) 0) ∧ w = w' := by
  obtain ⟨h1, h2, h3, h4, h5, h6⟩ := h
  go_enter Try.func12, Try.ntmps12
  go_wp2_with (go_at_call 20; refine (round_any _ _ _ (by omega) (by omega) (by omega) (by omega)).mono ?_; rintro e w' ⟨rfl, rfl⟩)
  go_ret2
  exact ⟨rfl, rfl⟩

set_option maxHeartbeats 400000 in
theorem measure_no (n mm : Int) (w : World) (h : ¬ measureOk n mm) :
    Calls Try.prog 12 #[.int .i64 n, .int .i64 mm] w fun e w' => e = .returned (two 0 1) ∧ w = w' := by
  have H := Lib.hid h
  clear h
  go_enter Try.func12, Try.ntmps12
  go_wp2_with (go_at_call 20; refine (round_any _ _ _ (by omega) (by omega) (by omega) (by omega)).mono ?_; rintro e w' ⟨rfl, rfl⟩)
  all_goals
    go_ret2
    first
    | exact ⟨rfl, rfl⟩
    | exact absurd ⟨by omega, by omega, by omega, by omega, by omega, by omega⟩ H.out

def nearestB (n a b : Int) : Bool := decide (2 * b * n ≤ 2 * a + b ∧ 2 * a + b < 2 * b * n + 2 * b)

theorem nearest_rnd (a b : Int) (hb : 1 ≤ b) : 2 * b * rnd a b ≤ 2 * a + b ∧ 2 * a + b < 2 * b * rnd a b + 2 * b := by
  unfold rnd
  have h1 := Int.mul_ediv_add_emod (2 * a + b) (2 * b)
  have h2 := Int.emod_nonneg (2 * a + b) (show 2 * b ≠ 0 by omega)
  have h3 := Int.emod_lt_of_pos (2 * a + b) (show 0 < 2 * b by omega)
  omega

set_option maxHeartbeats 400000 in
theorem nearest_yes (n a b : Int) (w : World) (ha : 0 ≤ a) (ha' : a ≤ 1000000000000000) (hb : 1 ≤ b) (hb' : b ≤ 1000000000000000) (hn : n = rnd a b) :
    Calls Try.prog 13 #[.int .i64 n, .int .i64 a, .int .i64 b] w fun e w' => e = .returned (.bool true) ∧ w = w' := by
  obtain ⟨m1, m2⟩ := nearest_rnd a b hb
  obtain ⟨m3, m4⟩ := rnd_bd a b ha hb
  rw [← hn] at m1 m2 m3 m4
  clear hn
  have m5 : 0 ≤ 2 * b * n := Int.mul_nonneg (by omega) m3
  go_enter Try.func13, Try.ntmps13
  go_wp2
  go_ret
  exact ⟨rfl, rfl⟩

def gr (x y : Int) : Int := max (max 0 x) y

set_option maxHeartbeats 400000 in
theorem greatest_two (x y : Int) (b : Nat) (w : World) (hx : w.cell? ⟨b, 0, none⟩ = some (.int .i64 x)) (hy : w.cell? ⟨b, 1, none⟩ = some (.int .i64 y)) :
    Calls Try.prog 22 #[.slice (some ⟨b, 0, none⟩) 2 2] w fun e w' => e = .returned (.int .i64 (gr x y)) ∧ w = w' := by
  go_enter Try.func22, Try.ntmps22
  go_wp2
  go_rounds 3
  all_goals
    go_ret
    exact ⟨ret_int (by unfold gr; omega), rfl⟩

end Go.Proofs.Ytknkpmckgaloaaa
