/-
  ganseylaw39.lives.
-/
import Derived.Test.YtblcphibkcjmdaaPex
namespace Go.Proofs.Ytblcphibkcjmdaa
open Go.RowKit

theorem ex_simple : SimpleChart 3 exL exK exY := fun i hi => by
  refine ⟨fun j hj => ?_, by unfold exL; omega⟩
  unfold Simple exK exY
  split <;> split <;> omega
theorem ex_valid : ValidC 3 exL := ⟨rfl, by omega, fun i _ => by unfold exL; omega, fun i _ => rfl⟩

theorem ex_loop (g r c : Nat) (w : World) (hc : ChartV w (some ⟨g, 0, none⟩) 3 exL exK exY) (hr : r < 3) (hcl : c < 3) (hev : r % 2 = 0) (ri ci mi : Int) (hri : ri = r) (hci : ci = c) (y : Int) (m : Nat) (hmi : mi = m) (hy : exY r c = y) (hm : ahead exL exY y r + cnt (fun i => exY r (c + 1 + i)) y (3 - (c + 1)) = m) :
    Calls Try.prog 12 #[.agg #[.slice (some ⟨g, 0, none⟩) 3 3], .int .i64 ri, .int .i64 ci] w (RetB (.tuple #[.agg #[.int .u8 y, .int .i64 mi], .int .i64 0]) w) := by
  subst hy hm hri hci hmi
  exact loop_even 3 3 r c exL exK exY _ w hc ex_simple ex_valid hr hcl hev (Nat.le_refl _)

set_option maxRecDepth 20000 in
set_option maxHeartbeats 2000000 in
theorem lives_true (w : World) : Calls Try.prog 4 #[] w (RetB (.bool true) w) := by
  go_enter Try.func4, Try.ntmps4
  go_wp2_with fail
  refine (example_any w).mono ?_; rintro e w1 ⟨g, rfl, hc1, hB1⟩
  have hz1 := hB1.size
  have L1 := Lib.hid (ex_loop g 0 1 (w1.alloc (.cells #[.slice (some ⟨g, 0, none⟩) 3 3] 28)) (hc1.below ((Below.refl _ w1).alloc (Nat.le_refl _) _)) (by omega) (by omega) rfl 0 1 0 rfl rfl 2 0 rfl (by decide) (by decide))
  go_wp2_with fail
  refine (L1.out).mono ?_; rintro e w2 ⟨rfl, hB2⟩
  have hC2 := Lib.hid (((Below.refl _ w1).alloc (Nat.le_refl _) (.cells #[.slice (some ⟨g, 0, none⟩) 3 3] 28)).trans (hB2.mono (by simp)))
  have k1 : w2.cell? ⟨w1.heap.size, 0, none⟩ = some (.slice (some ⟨g, 0, none⟩) 3 3) := (hB2.cell (p := ⟨w1.heap.size, 0, none⟩) (by simp)).trans (by simp [go_sem])
  have hz2 : w1.heap.size < w2.heap.size := by have := hB2.size; simp at this; omega
  clear hB2 L1
  have L2 := Lib.hid (ex_loop g 0 0 (w2.alloc (.cells #[.int .u8 2, .int .i64 0] 46)) (hc1.below (hC2.out.alloc (by omega) _)) (by omega) (by omega) rfl 0 0 4 rfl rfl 1 4 rfl (by decide) (by decide))
  go_wp2_with fail
  refine (L2.out).mono ?_; rintro e w3 ⟨rfl, hB3⟩
  have hC3 := Lib.hid ((hC2.out.alloc (by omega) (.cells #[.int .u8 2, .int .i64 0] 46)).trans (hB3.mono (by simp; omega)))
  have k2 : w3.cell? ⟨w1.heap.size, 0, none⟩ = some (.slice (some ⟨g, 0, none⟩) 3 3) := (hB3.cell (p := ⟨w1.heap.size, 0, none⟩) (by simp; omega)).trans ((World.cell?_of_block (a := ⟨w1.heap.size, 0, none⟩) (Below.heap_alloc _ _ _ hz2)).trans k1)
  have a1 : Hid (Row w3 w2.heap.size 46 [.int .u8 2, .int .i64 0]) := Lib.hid ((Row.new w2 _ _).of_heap (hB3.block _ (by simp)))
  have hz3 : w2.heap.size < w3.heap.size := by have := hB3.size; simp at this; omega
  have hq3 : w1.heap.size < w3.heap.size := by omega
  clear hB3 L2 k1
  have L3 := Lib.hid (ex_loop g 2 0 (w3.alloc (.cells #[.int .u8 1, .int .i64 4] 46)) (hc1.below (hC3.out.alloc (by omega) _)) (by omega) (by omega) rfl 2 0 7 rfl rfl 1 7 rfl (by decide) (by decide))
  go_wp2_with fail
  refine (L3.out).mono ?_; rintro e w4 ⟨rfl, hB4⟩
  have hC4 := Lib.hid ((hC3.out.alloc (by omega) (.cells #[.int .u8 1, .int .i64 4] 46)).trans (hB4.mono (by simp; omega)))
  have k3 : w4.cell? ⟨w1.heap.size, 0, none⟩ = some (.slice (some ⟨g, 0, none⟩) 3 3) := (hB4.cell (p := ⟨w1.heap.size, 0, none⟩) (by simp; omega)).trans ((World.cell?_of_block (a := ⟨w1.heap.size, 0, none⟩) (Below.heap_alloc _ _ _ (by omega))).trans k2)
  have a2 : Hid (Row w4 w2.heap.size 46 [.int .u8 2, .int .i64 0]) := Lib.hid ((a1.out.alloc (.cells #[.int .u8 1, .int .i64 4] 46)).of_heap (hB4.block _ (by simp; omega)))
  have b2 : Hid (Row w4 w3.heap.size 46 [.int .u8 1, .int .i64 4]) := Lib.hid ((Row.new w3 _ _).of_heap (hB4.block _ (by simp)))
  have hz4 : w3.heap.size < w4.heap.size := by have := hB4.size; simp at this; omega
  have hq4 : w1.heap.size < w4.heap.size := by omega
  clear hB4 L3 k2 a1
  have HP := Lib.hid (plain_yes 3 3 exL exK exY _ (w4.alloc (.cells #[.int .u8 1, .int .i64 7] 46)) (hc1.below (hC4.out.alloc (by omega) _)) ex_simple ex_valid)
  go_wp2_with fail
  refine (HP.out).mono ?_; rintro e w5 ⟨rfl, hB5⟩
  have hC5 := Lib.hid ((hC4.out.alloc (by omega) (.cells #[.int .u8 1, .int .i64 7] 46)).trans (hB5.mono (by simp; omega)))
  have k4 : w5.cell? ⟨w1.heap.size, 0, none⟩ = some (.slice (some ⟨g, 0, none⟩) 3 3) := (hB5.cell (p := ⟨w1.heap.size, 0, none⟩) (by simp; omega)).trans ((World.cell?_of_block (a := ⟨w1.heap.size, 0, none⟩) (Below.heap_alloc _ _ _ (by omega))).trans k3)
  have a3 : Hid (Row w5 w2.heap.size 46 [.int .u8 2, .int .i64 0]) := Lib.hid ((a2.out.alloc (.cells #[.int .u8 1, .int .i64 7] 46)).of_heap (hB5.block _ (by simp; omega)))
  have b3 : Hid (Row w5 w3.heap.size 46 [.int .u8 1, .int .i64 4]) := Lib.hid ((b2.out.alloc (.cells #[.int .u8 1, .int .i64 7] 46)).of_heap (hB5.block _ (by simp; omega)))
  have d3 : Hid (Row w5 w4.heap.size 46 [.int .u8 1, .int .i64 7]) := Lib.hid ((Row.new w4 _ _).of_heap (hB5.block _ (by simp)))
  clear hB5 HP k3 a2 b2
  have HD := Lib.hid (draw_yes 3 3 exL exK exY _ w5 (hc1.below hC5.out) ex_simple ex_valid)
  go_wp2_with fail
  refine (HD.out).mono ?_; rintro e w6 ⟨rfl, hB6⟩
  have hstr : strOfNums (drawnI exL exK exY (back 3 3)) = ⟨#[97, 49, 49, 10, 50, 50, 50, 10, 49, 98, 49, 10]⟩ := by decide
  rw [hstr]
  have a4 := a3.out.of_heap (w' := w6) (hB6.block _ a3.out.lt)
  have b4 := b3.out.of_heap (w' := w6) (hB6.block _ b3.out.lt)
  have d4 := d3.out.of_heap (w' := w6) (hB6.block _ d3.out.lt)
  have x1 := a4.cell (i := 0) rfl
  have x2 := a4.cell (i := 1) rfl
  have x3 := b4.cell (i := 0) rfl
  have x4 := b4.cell (i := 1) rfl
  have x5 := d4.cell (i := 0) rfl
  have x6 := d4.cell (i := 1) rfl
  have hFin : Below w.heap.size w w6 := hB1.trans ((hC5.out.trans (hB6.mono hC5.out.size)).mono hz1)
  clear hB6 HD hstr
  go_wp2
  go_ret
  exact ⟨rfl, hFin⟩
end Go.Proofs.Ytblcphibkcjmdaa
