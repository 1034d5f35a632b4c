/-
  Contracts: pictures.count, charts.First.
-/
import Derived.Test.YtblcphibkcjmdaaPread
namespace Go.Proofs.Ytblcphibkcjmdaa
open Go.RowKit

/-- How many of the first n stitches have yarn y. -/
def cnt (Y : Nat → Int) (y : Int) : Nat → Nat
  | 0 => 0
  | k + 1 => cnt Y y k + (if Y k = y then 1 else 0)
theorem cnt_le (Y : Nat → Int) (y : Int) : ∀ k, cnt Y y k ≤ k
  | 0 => Nat.le_refl _
  | k + 1 => by
    have := cnt_le Y y k
    unfold cnt
    split <;> omega

set_option maxRecDepth 20000 in
set_option maxHeartbeats 1000000 in
theorem count_row (n cap : Nat) (K Y : Nat → Int) (y : Int) (ao : Option Addr) (w : World) (hn : n ≤ 100000) (hr : RowV w ao n K Y) :
    Calls Try.prog 19 #[.slice ao n cap, .int .u8 y] w (RetB (.int .i64 (cnt Y y n)) w) := by
  rcases hr with rfl | ⟨b, off, rfl, hb, hr⟩
  · go_enter Try.func19, Try.ntmps19
    go_wp2
    go_rounds 1
    go_ret
    exact ⟨rfl, Below.refl _ _⟩
  · have HR := Lib.hid hr
    clear hr
    go_enter Try.func19, Try.ntmps19
    go_wp2_with fail
    go_loopw [5, 10] (fun s i wr => ∃ k : Nat, k ≤ n ∧ s = .int .i64 (cnt Y y k) ∧ i = .int .i64 k ∧ Below w.heap.size w wr) (fun _ i _ => n - (intOf i).toNat)
    case atStart => exact ⟨0, Nat.zero_le _, rfl, rfl, Below.refl _ _⟩
    case round =>
      obtain ⟨k, hk, rfl, rfl, hB⟩ := hrel
      have hle := cnt_le Y y k
      obtain ⟨m, hm⟩ : ∃ m, cnt Y y k = m := ⟨_, rfl⟩
      rw [hm] at hle ⊢
      by_cases hkn : k < n
      · obtain ⟨h1, h2, h3, h4, h5⟩ := (HR.out.below hB hb) k hkn
        have hz := hB.size
        by_cases hy : Y k = y
        · have hc1 : cnt Y y (k + 1) = m + 1 := by rw [cnt, hm, if_pos hy]
          have HC := Lib.hid hc1
          rw [hy] at h2
          clear hc1 hy hm
          go_wp2
          go_roundw
          case rel => exact ⟨k + 1, by omega, by rw [HC.out]; go_num, by go_num, by go_grown⟩
          case measure => simp [intOf]; omega
        · have hc1 : cnt Y y (k + 1) = m := by rw [cnt, hm, if_neg hy]; rfl
          have HC := Lib.hid hc1
          have hyf : (Y k == y) = false := by simpa using hy
          clear hc1 hm
          go_wp2
          go_roundw
          case rel => exact ⟨k + 1, by omega, by rw [HC.out], by go_num, by go_grown⟩
          case measure => simp [intOf]; omega
      · obtain rfl : k = n := by omega
        go_wp2
        go_ret
        exact ⟨by rw [hm]; rfl, hB⟩

/-- The least yarn of the first k + 1 stitches. -/
def mn (Y : Nat → Int) : Nat → Int
  | 0 => Y 0
  | k + 1 => if Y (k + 1) < mn Y k then Y (k + 1) else mn Y k

theorem first1 (k1 y1 k2 y2 : Int) (w : World) (h1 : 0 ≤ y1) (h2 : y1 ≤ 255) (h3 : 0 ≤ y2) (h4 : y2 ≤ 255) :
    Calls Try.prog 28 #[st k1 y1, st k2 y2] w (RetB (.int .i64 (y1 - y2)) w) := by
  unfold st
  go_enter Try.func28, Try.ntmps28
  go_wp2
  go_ret
  exact ⟨rfl, by go_grown⟩

theorem noWay_retI {P : Program} {fn : Func} {T : Value → Prop} {w : World} : NoWay (bodyPost P fn (fun e w' => (∃ v, T v ∧ e = .returned v) ∧ Below w.heap.size w w')) :=
  noWay_body (fun _ _ h => by obtain ⟨⟨_, _, h⟩, _⟩ := h; cases h) (fun _ h => by obtain ⟨⟨_, _, h⟩, _⟩ := h; cases h)

/-- What MinFunc hands back: some stitch with the least yarn. -/
def MinV (n : Nat) (Y : Nat → Int) (v : Value) : Prop := ∃ k, v = st k (mn Y (n - 1))
theorem mn_bd (Y : Nat → Int) (n : Nat) (h : ∀ j, j < n → 1 ≤ Y j ∧ Y j ≤ 6) : ∀ k, k < n → 1 ≤ mn Y k ∧ mn Y k ≤ 6
  | 0, hk => h 0 hk
  | k + 1, hk => by
    have h1 := mn_bd Y n h k (by omega)
    have h2 := h (k + 1) hk
    unfold mn
    split <;> assumption

/-- Five stores. -/
def set5 (w : World) (g : Nat) (k y : Int) : World := ((((w.setCell ⟨g, 0, none⟩ (.int .u8 k)).setCell ⟨g, 1, none⟩ (.int .u8 y)).setCell ⟨g, 2, none⟩ (.int .i64 0)).setCell ⟨g, 3, none⟩ (.int .i64 0)).setCell ⟨g, 4, none⟩ (.bool false)
theorem set5_row {w : World} {g : Nat} {e : TypeId} {p : Int × Int} (h : Row w g e (stC p)) (k y : Int) : Row (set5 w g k y) g e (stC (k, y)) :=
  (((((h.setCell 0 _).setCell 1 _).setCell 2 _).setCell 3 _).setCell 4 _).to rfl
theorem set5_other {w : World} {g j : Nat} {e : TypeId} {cs : List Value} (h : Row w j e cs) (hj : j ≠ g) (k y : Int) : Row (set5 w g k y) j e cs :=
  ((((h.setCell_other hj _).setCell_other hj _).setCell_other hj _).setCell_other hj _).setCell_other hj _
theorem set5_below {B g : Nat} {w0 w : World} (h : Below B w0 w) (hg : B ≤ g) (k y : Int) : Below B w0 (set5 w g k y) :=
  ((((h.setCell (p := ⟨g, 0, none⟩) hg _).setCell (p := ⟨g, 1, none⟩) hg _).setCell (p := ⟨g, 2, none⟩) hg _).setCell (p := ⟨g, 3, none⟩) hg _).setCell (p := ⟨g, 4, none⟩) hg _

theorem noWay_min {n : Nat} {Y : Nat → Int} {w : World} : NoWay (bodyPost Try.prog Try.f27 (fun e w' => (∃ v, MinV n Y v ∧ e = .returned v) ∧ Below w.heap.size w w')) := noWay_retI

set_option maxRecDepth 20000 in
set_option maxHeartbeats 2000000 in
theorem min_row (n cap b off : Nat) (K Y : Nat → Int) (w : World) (h1 : 1 ≤ n) (hn : n ≤ 100000) (hb : b < w.heap.size) (hr : RowAt w b off n K Y) (hs : SimpleRow n K Y) :
    Calls Try.prog 27 #[.slice (some ⟨b, off, none⟩) n cap, .func (.func 28) #[] #[]] w (fun e w' => (∃ v, MinV n Y v ∧ e = .returned v) ∧ Below w.heap.size w w') := by
  have HR := Lib.hid hr
  have HS := Lib.hid hs
  obtain ⟨e1, e2, e3, e4, e5⟩ := hr 0 h1
  rw [Nat.zero_mul, Nat.add_zero] at e1 e2 e3 e4 e5
  clear hr hs
  go_enter Try.func27, Try.ntmps27
  have hd : decide ((n : Int) < 1) = false := by simp; omega
  go_wp2_with fail
  obtain ⟨z, hz⟩ : ∃ z, w.heap.size = z := ⟨_, rfl⟩
  have hB0 : Below z w ((w.alloc (.cells #[.int .u8 0, .int .u8 0, .int .i64 0, .int .i64 0, .bool false] 38)).alloc (.cells #[.int .u8 (K 0), .int .u8 (Y 0), .int .i64 0, .int .i64 0, .bool false] 38)) := by
    rw [← hz]
    exact ((Below.refl _ w).alloc (Nat.le_refl _) _).alloc (by simp) _
  have hR0 : Row ((w.alloc (.cells #[.int .u8 0, .int .u8 0, .int .i64 0, .int .i64 0, .bool false] 38)).alloc (.cells #[.int .u8 (K 0), .int .u8 (Y 0), .int .i64 0, .int .i64 0, .bool false] 38)) z 38 (stC (0, 0)) := by
    rw [← hz]
    exact (Row.new w 38 (stC (0, 0))).alloc _
  have hR1 : Row ((w.alloc (.cells #[.int .u8 0, .int .u8 0, .int .i64 0, .int .i64 0, .bool false] 38)).alloc (.cells #[.int .u8 (K 0), .int .u8 (Y 0), .int .i64 0, .int .i64 0, .bool false] 38)) (z + 1) 38 (stC (K 0, Y 0)) := by
    rw [← hz]
    have := Row.new (w.alloc (.cells #[.int .u8 0, .int .u8 0, .int .i64 0, .int .i64 0, .bool false] 38)) 38 (stC (K 0, Y 0))
    rw [World.size_alloc] at this
    exact this
  rw [hz]
  clear hd
  go_loopw [6] (fun i wr => ∃ (k : Nat) (kk : Int), k + 1 ≤ n ∧ i = .int .i64 ((k : Int) + 1) ∧ Row wr z 38 (stC (0, 0)) ∧ Row wr (z + 1) 38 (stC (kk, mn Y k)) ∧ Below z w wr) (fun i _ => n - (intOf i).toNat)
  case atStart => exact ⟨0, K 0, h1, rfl, hR0, hR1, hB0⟩
  case round =>
    obtain ⟨k, kk, hk, rfl, hA, hC, hB⟩ := hrel
    have hzr : z + 1 < wr.heap.size := hC.lt
    obtain ⟨m, hm⟩ : ∃ m, mn Y k = m := ⟨_, rfl⟩
    rw [hm] at hC
    have q1 := hC.cell (i := 0) rfl
    have q2 := hC.cell (i := 1) rfl
    have q3 := hC.cell (i := 2) rfl
    have q4 := hC.cell (i := 3) rfl
    have q5 := hC.cell (i := 4) rfl
    have hfr : ∀ i, wr.frozen? ⟨z + 1, i, none⟩ = false := hC.frozen
    have hmb := mn_bd Y n (fun j hj => (HS.out j hj).2.2) k (by omega)
    rw [hm] at hmb
    by_cases hkn : k + 1 < n
    · obtain ⟨d1, d2, d3, d4, d5⟩ := (HR.out.below hB (by omega)) (k + 1) hkn
      have hyb := (HS.out (k + 1) hkn).2.2
      have HCL := Lib.hid (fun w1 => first1 (K (k + 1)) (Y (k + 1)) kk m w1 (by omega) (by omega) (by omega) (by omega))
      go_wp2_with fail
      refine wp_region_pieces [(true, [0, 1, 2, 3, 4, 5]), (false, [6, 7])] (by kernel_rfl) (by kernel_rfl) (by kernel_rfl) noWay_min ?_
      simp only [wpPieces, picks, List.drop_succ_cons, List.drop_zero, List.take_succ_cons, List.take_zero, List.cons_append, List.nil_append]
      go_wp2_with fail
      refine ⟨trivial, ?_⟩
      go_wp2_with fail
      refine (HCL.out _).mono ?_; rintro e w5 ⟨rfl, hB5⟩
      have hBB5 : Below z w w5 := (Below.drew hB).trans (hB5.mono (by show z ≤ wr.heap.size; omega))
      have hA5 := hA.of_heap (w' := w5) (hB5.block z (by show z < wr.heap.size; omega))
      have hC5 := hC.of_heap (w' := w5) (hB5.block (z + 1) hzr)
      have hz5 : z + 1 < w5.heap.size := hC5.lt
      clear q1 q2 q3 q4 q5 d1 d2 d3 d4 d5 hfr hB5 HCL
      by_cases hlt : Y (k + 1) < m
      · have hdd : decide (Y (k + 1) - m < 0) = true := by simp; omega
        have hmn : Hid (mn Y (k + 1) = Y (k + 1)) := Lib.hid (by rw [mn, hm, if_pos hlt])
        obtain ⟨d1, d2, d3, d4, d5⟩ := (HR.out.below hBB5 (by omega)) (k + 1) hkn
        have q1 := hC5.cell (i := 0) rfl
        have q2 := hC5.cell (i := 1) rfl
        have q3 := hC5.cell (i := 2) rfl
        have q4 := hC5.cell (i := 3) rfl
        have q5 := hC5.cell (i := 4) rfl
        have hfr : ∀ i, w5.frozen? ⟨z + 1, i, none⟩ = false := hC5.frozen
        clear hm
        go_wp2
        go_roundw
        case rel => exact ⟨k + 1, K (k + 1), by omega, by go_num, set5_other hA5 (by omega) _ _, by rw [hmn.out]; exact set5_row hC5 _ _, set5_below hBB5 (Nat.le_succ _) _ _⟩
        case measure => simp [intOf]; omega
      · have hdd : decide (Y (k + 1) - m < 0) = false := by simp; omega
        have hmn : Hid (mn Y (k + 1) = m) := Lib.hid (by rw [mn, hm, if_neg hlt])
        clear hm
        go_wp2
        go_roundw
        case rel => exact ⟨k + 1, kk, by omega, by go_num, hA5, by rw [hmn.out]; exact hC5, hBB5⟩
        case measure => simp [intOf]; omega
    · obtain rfl : n = k + 1 := by omega
      clear hk
      have p1 := hA.cell (i := 0) rfl
      have p2 := hA.cell (i := 1) rfl
      have p3 := hA.cell (i := 2) rfl
      have p4 := hA.cell (i := 3) rfl
      have p5 := hA.cell (i := 4) rfl
      have hfz : ∀ i, wr.frozen? ⟨z, i, none⟩ = false := hA.frozen
      go_wp2
      refine bodyPost_ret (v := .agg (stC (kk, m)).toArray) (results_cell_row rfl _ _ z 38 (stC (kk, m)).toArray _ _ rfl (set5_row hA kk m) Try.underlying38 rfl (by kernel_rfl)) rfl ?_
      exact ⟨⟨_, ⟨kk, by rw [Nat.add_sub_cancel, hm]; rfl⟩, rfl⟩, set5_below hB (Nat.le_refl _) _ _⟩

theorem field_yarn (w : World) (k y : Int) : (Instr.field 38 (.agg #[.int .u8 k, .int .u8 y, .int .i64 0, .int .i64 0, .bool false]) 1).run Try.prog w = .ok (.int .u8 y) w := by kernel_rfl

set_option maxRecDepth 20000 in
theorem first_row (n cap b off : Nat) (K Y : Nat → Int) (w : World) (h1 : 1 ≤ n) (hn : n ≤ 100000) (hb : b < w.heap.size) (hr : RowAt w b off n K Y) (hs : SimpleRow n K Y) :
    Calls Try.prog 18 #[.slice (some ⟨b, off, none⟩) n cap] w (RetB (.int .u8 (mn Y (n - 1))) w) := by
  have HM := Lib.hid (min_row n cap b off K Y w h1 hn hb hr hs)
  have hd : ((n : Int) == 0) = false := by simp; omega
  clear hr hs
  go_enter Try.func18, Try.ntmps18
  go_wp2_with fail
  refine (HM.out).mono ?_; rintro e w1 ⟨⟨v, ⟨k, rfl⟩, rfl⟩, hB⟩
  unfold st
  have hfl := field_yarn w1 k (mn Y (n - 1))
  go_wp2
  go_ret
  exact ⟨rfl, hB⟩

end Go.Proofs.Ytblcphibkcjmdaa
