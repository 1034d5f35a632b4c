/-
  Contracts of package stitches, of stitches that are knit or purl: Check, count, Needs, Makes, Loads.
-/
import Derived.Test.YtblcphibkcjmdaaRows
import Derived.Test.YtblcphibkcjmdaaLib
import Derived.Test.YtblcphibkcjmdaaPerm
import Derived.Deep.RegionHeld3
namespace Go.Proofs.Ytblcphibkcjmdaa
open Go.RowKit

/-- A stitch, by value. -/
abbrev st (k y : Int) : Value := .agg #[.int .u8 k, .int .u8 y, .int .i64 0, .int .i64 0, .bool false]
/-- Knit or purl, of one of the six yarns. -/
def Simple (k y : Int) : Prop := 1 ≤ k ∧ k ≤ 2 ∧ 1 ≤ y ∧ y ≤ 6

def RetB (v : Value) (w : World) (e : Ending) (w' : World) : Prop := e = .returned v ∧ Below w.heap.size w w'

theorem two_new_block (w : World) (A B : Obj) : ((w.alloc A).alloc B).heap[w.heap.size + 1]? = some B := heap_alloc2_new w A B

set_option maxHeartbeats 1000000 in
theorem check_simple (k y : Int) (w : World) (h : Simple k y) : Calls Try.prog 37 #[st k y] w (RetB (.int .i64 0) w) := by
  obtain ⟨h1, h2, h3, h4⟩ := h
  go_enter Try.func37, Try.ntmps37
  go_wp2
  go_ret
  exact ⟨rfl, by go_grown⟩

/-- What counts tells. -/
abbrev countsA : Array Value := #[.int .i64 0, .int .i64 0, .int .i64 1, .int .i64 1, .int .i64 1, .int .i64 1, .int .i64 0, .int .i64 1, .int .i64 2, .int .i64 1, .int .i64 2, .int .i64 1, .int .i64 1, .int .i64 1, .int .i64 1, .int .i64 1, .int .i64 0, .int .i64 0]
abbrev countsV : Value := .agg countsA
abbrev zeros18 : Array Value := #[.int .i64 0, .int .i64 0, .int .i64 0, .int .i64 0, .int .i64 0, .int .i64 0, .int .i64 0, .int .i64 0, .int .i64 0, .int .i64 0, .int .i64 0, .int .i64 0, .int .i64 0, .int .i64 0, .int .i64 0, .int .i64 0, .int .i64 0, .int .i64 0]
theorem counts_build (w : World) : (Instr.build 90 #[(1, .agg #[.int .i64 1, .int .i64 1]), (2, .agg #[.int .i64 1, .int .i64 1]), (3, .agg #[.int .i64 0, .int .i64 1]), (4, .agg #[.int .i64 2, .int .i64 1]), (5, .agg #[.int .i64 2, .int .i64 1]), (6, .agg #[.int .i64 1, .int .i64 1]), (7, .agg #[.int .i64 1, .int .i64 1]), (8, .agg #[.int .i64 0, .int .i64 0])]).run Try.prog w = .ok countsV w := run_build w _ _ _ (by kernel_rfl)
set_option maxHeartbeats 1000000 in
theorem counts_any (w : World) : Calls Try.prog 48 #[] w (RetB countsV w) := by
  have hb := counts_build
  go_enter Try.func48, Try.ntmps48
  go_wp2_with (with_reducible refine wpList_store_row rfl 90 (.tmp 0) (.tmp 9) rfl w.heap.size #[.int .i64 0, .int .i64 0, .int .i64 1, .int .i64 1, .int .i64 1, .int .i64 1, .int .i64 0, .int .i64 1, .int .i64 2, .int .i64 1, .int .i64 2, .int .i64 1, .int .i64 1, .int .i64 1, .int .i64 1, .int .i64 1, .int .i64 0, .int .i64 0] rfl rfl 90 _ (heap_alloc_new w _) (by kernel_rfl) (by kernel_rfl) (by kernel_rfl) ?_)
  have hh := setRow_heap (w.alloc (.cells zeros18 90)) w.heap.size _ countsA _ _ (heap_alloc_new w _)
  refine bodyPost_ret (v := countsV) (results_cell_row rfl _ _ w.heap.size _ countsA _ _ rfl hh Try.underlying90 rfl (by kernel_rfl)) rfl ⟨rfl, ?_⟩
  exact below_setRow ((Below.refl _ w).alloc (Nat.le_refl _) _) (Nat.le_refl _) _

theorem below_set2 {B : Nat} {w0 w : World} (h : Below B w0 w) {b : Nat} (hb : B ≤ b) (x y : Value) : Below B w0 ((w.setCell ⟨b, 0, none⟩ x).setCell ⟨b, 1, none⟩ y) := (h.setCell (p := ⟨b, 0, none⟩) hb x).setCell (p := ⟨b, 1, none⟩) hb y
theorem counts_at1 (w : World) : (Instr.index 90 countsV (.int .u8 1)).run Try.prog w = .ok (.agg #[.int .i64 1, .int .i64 1]) w := by kernel_rfl
theorem counts_at2 (w : World) : (Instr.index 90 countsV (.int .u8 2)).run Try.prog w = .ok (.agg #[.int .i64 1, .int .i64 1]) w := by kernel_rfl
theorem counts_at (k : Int) (h1 : 1 ≤ k) (h2 : k ≤ 2) (w : World) : (Instr.index 90 countsV (.int .u8 k)).run Try.prog w = .ok (.agg #[.int .i64 1, .int .i64 1]) w := by
  have h : k = 1 ∨ k = 2 := by omega
  rcases h with h | h
  · rw [h]; exact counts_at1 w
  · rw [h]; exact counts_at2 w
set_option maxHeartbeats 1000000 in
theorem count_simple (k y : Int) (w : World) (h : Simple k y) : Calls Try.prog 46 #[st k y] w (RetB (.agg #[.int .i64 1, .int .i64 1]) w) := by
  have HC := Lib.hid (fun w1 => check_simple k y w1 h)
  obtain ⟨h1, h2, h3, h4⟩ := h
  have hk := counts_at k h1 h2
  go_enter Try.func46, Try.ntmps46
  go_wp2_with fail
  refine (HC.out _).mono ?_; rintro e w1 ⟨rfl, hB⟩
  have c1 : w1.cell? ⟨w.heap.size, 0, none⟩ = some (.int .u8 k) := (hB.cell (p := ⟨w.heap.size, 0, none⟩) (by simp; omega)).trans (by simp [go_sem])
  have r1 : w1.heap[w.heap.size + 1]? = some (.cells #[.int .i64 0, .int .i64 0] 85) := (hB.block (w.heap.size + 1) (by simp)).trans (two_new_block w _ _)
  have hBw : Below w.heap.size w w1 := Below.trans (by go_grown) (hB.mono (by simp; omega))
  have hs1 : w.heap.size + 1 < w1.heap.size := by have := hB.size; simp at this; omega
  clear hB
  go_wp2_with fail
  have f1 : w1.frozen? ⟨w.heap.size + 1, 0, none⟩ = false := frozen_of_row w1 _ 0 _ _ r1
  have f2 : w1.frozen? ⟨w.heap.size + 1, 1, none⟩ = false := frozen_of_row w1 _ 1 _ _ r1
  have d1 : w1.cell? ⟨w.heap.size + 1, 0, none⟩ = some (.int .i64 0) := by simp [World.cell?, r1]
  have d2 : w1.cell? ⟨w.heap.size + 1, 1, none⟩ = some (.int .i64 0) := by simp [World.cell?, r1]
  have hs0 : w.heap.size < w1.heap.size := by omega
  clear r1
  go_region_with (go_at_call 48; refine (counts_any _).mono ?_; rintro e w9 ⟨rfl, hB9⟩; have q1 := (hB9.cell (p := ⟨w.heap.size, 0, none⟩) hs0).trans c1; have q2 := (hB9.cell (p := ⟨w.heap.size + 1, 0, none⟩) hs1).trans d1; have q3 := (hB9.cell (p := ⟨w.heap.size + 1, 1, none⟩) hs1).trans d2; have q4 := (hB9.frozen (p := ⟨w.heap.size + 1, 0, none⟩) hs1).trans f1; have q5 := (hB9.frozen (p := ⟨w.heap.size + 1, 1, none⟩) hs1).trans f2)
  all_goals
    go_wp2
    have hBx : Below w.heap.size w w9 := (Below.drew hBw).trans (hB9.mono (Nat.le_of_lt hs0))
    refine bodyPost_ret (v := .agg #[.int .i64 1, .int .i64 1]) ?_ rfl ⟨rfl, ?_⟩
    · simp [results, Try.results46, go_sem, q2, q3]
    · exact below_set2 hBx (Nat.le_succ _) _ _

set_option maxRecDepth 20000 in
theorem needs_simple (k y : Int) (w : World) (h : Simple k y) : Calls Try.prog 41 #[st k y] w (RetB (.int .i64 1) w) := by
  have i0 : ∀ w, (Instr.index 85 (.agg #[.int .i64 1, .int .i64 1]) (.int .i64 0)).run Try.prog w = .ok (.int .i64 1) w := fun _ => by kernel_rfl
  go_enter Try.func41, Try.ntmps41
  go_wp2_with fail
  refine (count_simple k y _ h).mono ?_; rintro e w1 ⟨rfl, hB⟩
  go_wp2
  go_ret
  exact ⟨rfl, Below.trans (by go_grown) (hB.mono (by simp))⟩
set_option maxRecDepth 20000 in
theorem makes_simple (k y : Int) (w : World) (h : Simple k y) : Calls Try.prog 45 #[st k y] w (RetB (.int .i64 1) w) := by
  have i0 : ∀ w, (Instr.index 85 (.agg #[.int .i64 1, .int .i64 1]) (.int .i64 1)).run Try.prog w = .ok (.int .i64 1) w := fun _ => by kernel_rfl
  go_enter Try.func45, Try.ntmps45
  go_wp2_with fail
  refine (count_simple k y _ h).mono ?_; rintro e w1 ⟨rfl, hB⟩
  go_wp2
  go_ret
  exact ⟨rfl, Below.trans (by go_grown) (hB.mono (by simp))⟩

end Go.Proofs.Ytblcphibkcjmdaa
