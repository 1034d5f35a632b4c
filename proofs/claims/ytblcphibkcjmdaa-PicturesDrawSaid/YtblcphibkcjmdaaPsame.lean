/-
  Contracts: charts.Same, of charts with the same stitches; pictures.count; charts.First.
-/
import Derived.Test.YtblcphibkcjmdaaPcol
namespace Go.Proofs.Ytblcphibkcjmdaa
open Go.RowKit

theorem below_drewN' {B : Nat} {w0 w : World} (h : Below B w0 w) (n : Nat) : Below B w0 (w.drewN n) := h.trans ⟨rfl, rfl, rfl, Nat.le_refl _, fun _ _ => rfl⟩

set_option maxRecDepth 20000 in
set_option maxHeartbeats 2000000 in
theorem equal_rows (n c1 c2 : Nat) (K Y : Nat → Int) (a1 a2 : Option Addr) (w : World) (hn : n ≤ 100000) (h1 : RowV w a1 n K Y) (h2 : RowV w a2 n K Y) :
    Calls Try.prog 26 #[.slice a1 n c1, .slice a2 n c2] w (RetB (.bool true) w) := by
  rcases h1 with rfl | ⟨b1, o1, rfl, hb1, h1⟩
  · go_enter Try.func26, Try.ntmps26
    go_wp2
    go_rounds 1
    go_ret
    exact ⟨rfl, Below.refl _ _⟩
  · rcases h2 with rfl | ⟨b2, o2, rfl, hb2, h2⟩
    · go_enter Try.func26, Try.ntmps26
      go_wp2
      go_rounds 1
      go_ret
      exact ⟨rfl, Below.refl _ _⟩
    · have H1 := Lib.hid h1
      have H2 := Lib.hid h2
      clear h1 h2
      go_enter Try.func26, Try.ntmps26
      go_wp2
      go_loopw [13] (fun i wr => ∃ k : Nat, k ≤ n ∧ i = .int .i64 k ∧ Below w.heap.size w wr) (fun i _ => n - (intOf i).toNat)
      case atStart => exact ⟨0, Nat.zero_le _, rfl, Below.refl _ _⟩
      case round =>
        obtain ⟨k, hk, rfl, hB⟩ := hrel
        by_cases hkn : k < n
        · obtain ⟨d1, d2, d3, d4, d5⟩ := (H1.out.below hB hb1) k hkn
          obtain ⟨e1, e2, e3, e4, e5⟩ := (H2.out.below hB hb2) k hkn
          go_wp2
          go_quiet (fail)
          go_wp2
          go_roundw
          case rel => exact ⟨k + 1, by omega, by go_num, below_drewN' hB _⟩
          case measure => simp [intOf]; omega
        · clear hk
          go_wp2
          go_ret
          exact ⟨rfl, hB⟩

set_option maxRecDepth 20000 in
theorem equal1_rows (n c1 c2 : Nat) (K Y : Nat → Int) (a1 a2 : Option Addr) (w : World) (hn : n ≤ 100000) (h1 : RowV w a1 n K Y) (h2 : RowV w a2 n K Y) :
    Calls Try.prog 25 #[.slice a1 n c1, .slice a2 n c2] w (RetB (.bool true) w) := by
  have HC := Lib.hid (equal_rows n c1 c2 K Y a1 a2 w hn h1 h2)
  clear h1 h2
  go_enter Try.func25, Try.ntmps25
  go_wp2_with fail
  refine (HC.out).mono ?_; rintro e w1 ⟨rfl, hB⟩
  go_wp2
  go_ret
  exact ⟨rfl, hB⟩

set_option maxRecDepth 20000 in
set_option maxHeartbeats 2000000 in
theorem equalFunc_chart (n c1 c2 : Nat) (L : Nat → Nat) (K Y : Nat → Nat → Int) (a1 a2 : Option Addr) (w : World) (hn : n ≤ 1000000) (h1 : ChartV w a1 n L K Y) (h2 : ChartV w a2 n L K Y) (hs : SimpleChart n L K Y) :
    Calls Try.prog 24 #[.slice a1 n c1, .slice a2 n c2, .func (.func 25) #[] #[]] w (RetB (.bool true) w) := by
  have HS := Lib.hid hs
  clear hs
  by_cases hn0 : n = 0
  · subst hn0
    clear h1 h2
    go_enter Try.func24, Try.ntmps24
    go_wp2
    go_rounds 1
    go_ret
    exact ⟨rfl, Below.refl _ _⟩
  · rcases h1 with h0 | ⟨b1, o1, rfl, hb1, h1⟩
    · exact absurd h0 hn0
    rcases h2 with h0 | ⟨b2, o2, rfl, hb2, h2⟩
    · exact absurd h0 hn0
    have H1 := Lib.hid (fun w1 (hB : Below w.heap.size w w1) => h1.below hB (Nat.le_refl _) hb1)
    have H2 := Lib.hid (fun w1 (hB : Below w.heap.size w w1) => h2.below hB (Nat.le_refl _) hb2)
    clear h1 h2 hn0
    go_enter Try.func24, Try.ntmps24
    go_wp2
    go_loopw [17] (fun i wr => ∃ k : Nat, k ≤ n ∧ i = .int .i64 k ∧ Below w.heap.size w wr) (fun i _ => n - (intOf i).toNat)
    case atStart => exact ⟨0, Nat.zero_le _, rfl, Below.refl _ _⟩
    case round =>
      obtain ⟨k, hk, rfl, hB⟩ := hrel
      by_cases hkn : k < n
      · obtain ⟨ra, rc, _, p2, p3⟩ := H1.out wr hB k hkn
        obtain ⟨rb, rd, _, q2, q3⟩ := H2.out wr hB k hkn
        have HC := Lib.hid (equal1_rows (L k) rc rd (K k) (Y k) ra rb wr (HS.out k hkn).2 p3 q3)
        clear p3 q3
        go_wp2_with fail
        refine (HC.out).mono ?_; rintro e w1 ⟨rfl, hB1⟩
        have hC := hB.trans (hB1.mono hB.size)
        clear hB1 HC
        go_wp2
        go_roundw
        case rel => exact ⟨k + 1, by omega, by go_num, hC⟩
        case measure => simp [intOf]; omega
      · clear hk
        go_wp2
        go_ret
        exact ⟨rfl, hB⟩

set_option maxRecDepth 20000 in
theorem same_chart (n c1 c2 : Nat) (L : Nat → Nat) (K Y : Nat → Nat → Int) (a1 a2 : Option Addr) (w : World) (hn : n ≤ 1000000) (h1 : ChartV w a1 n L K Y) (h2 : ChartV w a2 n L K Y) (hs : SimpleChart n L K Y) :
    Calls Try.prog 10 #[.agg #[.slice a1 n c1], .agg #[.slice a2 n c2]] w (RetB (.bool true) w) := by
  have hE : ∀ w, ChartV w a1 n L K Y → ChartV w a2 n L K Y → Calls Try.prog 17 #[.slice a1 n c1, .slice a2 n c2] w (RetB (.bool true) w) := by
    intro w h1 h2
    have HC := Lib.hid (equalFunc_chart n c1 c2 L K Y a1 a2 w hn h1 h2 hs)
    clear h1 h2
    go_enter Try.func17, Try.ntmps17
    go_wp2_with fail
    refine (HC.out).mono ?_; rintro e w1 ⟨rfl, hB⟩
    go_wp2
    go_ret
    exact ⟨rfl, hB⟩
  have hB0 : Below w.heap.size w ((w.alloc (.cells #[.slice a1 n c1] 28)).alloc (.cells #[.slice a2 n c2] 28)) := ((Below.refl _ w).alloc (Nat.le_refl _) _).alloc (by simp) _
  have HE := Lib.hid (hE _ (h1.below hB0) (h2.below hB0))
  have HB0 := Lib.hid hB0
  clear hE h1 h2 hs hB0
  go_enter Try.func10, Try.ntmps10
  go_wp2_with fail
  refine (HE.out).mono ?_; rintro e w1 ⟨rfl, hB⟩
  have hC := HB0.out.trans (hB.mono HB0.out.size)
  clear hB
  go_wp2
  go_ret
  exact ⟨rfl, hC⟩

end Go.Proofs.Ytblcphibkcjmdaa
