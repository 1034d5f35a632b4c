/-
  Contracts: charts.Widths, charts.Loads, charts.Check, of charts whose stitches are knit or purl.
-/
import Derived.Test.YtblcphibkcjmdaaPd
namespace Go.Proofs.Ytblcphibkcjmdaa
open Go.RowKit

/-- Rows at block b, from off on: row i has L i stitches. -/
def ChartAt (w : World) (b off n : Nat) (L : Nat → Nat) (K Y : Nat → Nat → Int) : Prop := ∀ i, i < n → ∃ ra rc, L i ≤ rc ∧ w.cell? ⟨b, off + i, none⟩ = some (.slice ra (L i) rc) ∧ RowV w ra (L i) (K i) (Y i)
def SimpleChart (n : Nat) (L : Nat → Nat) (K Y : Nat → Nat → Int) : Prop := ∀ i, i < n → SimpleRow (L i) (K i) (Y i) ∧ L i ≤ 100000
theorem ChartAt.below {w w' : World} {B b off n : Nat} {L : Nat → Nat} {K Y : Nat → Nat → Int} (h : ChartAt w b off n L K Y) (hB : Below B w w') (hs : w.heap.size ≤ B) (hb : b < B) : ChartAt w' b off n L K Y := fun i hi => by
  obtain ⟨ra, rc, h0, h1, h2⟩ := h i hi
  refine ⟨ra, rc, h0, (hB.cell (p := ⟨b, off + i, none⟩) hb).trans h1, ?_⟩
  rcases h2 with h2 | ⟨b2, o2, e1, e2, e3⟩
  · exact .inl h2
  · exact .inr ⟨b2, o2, e1, by have := hB.size; omega, e3.below hB (by omega)⟩
def ValidC (n : Nat) (L : Nat → Nat) : Prop := n % 2 = 1 ∧ n ≤ 31 ∧ (∀ i, i < n → 1 ≤ L i ∧ L i ≤ 16) ∧ ∀ i, i < n → L i = L 0

/-- What Widths returns. -/
def wid (L : Nat → Nat) : Nat → Int
  | 0 => L 0
  | i + 1 => L i
def WidPost (w : World) (n : Nat) (L : Nat → Nat) (e : Ending) (w' : World) : Prop := ∃ g, e = .returned (.slice (some ⟨g, 0, none⟩) (n + 1) (n + 1)) ∧ Row w' g 3 (ints (n + 1) (wid L)) ∧ w.heap.size ≤ g ∧ Below w.heap.size w w'

set_option maxRecDepth 20000 in
set_option maxHeartbeats 4000000 in
theorem widths_any (n cap b off : Nat) (L : Nat → Nat) (K Y : Nat → Nat → Int) (w : World) (h1 : 1 ≤ n) (hn : n ≤ 1000) (hb : b < w.heap.size) (hc : ChartAt w b off n L K Y) (hs : SimpleChart n L K Y) :
    Calls Try.prog 31 #[.agg #[.slice (some ⟨b, off, none⟩) n cap]] w (WidPost w n L) := by
  have HC := Lib.hid (fun w1 (hB : Below w.heap.size w w1) => hc.below hB (Nat.le_refl _) hb)
  have HS := Lib.hid hs
  obtain ⟨r0, c0, l0, q0, _⟩ := hc 0 h1
  rw [Nat.add_zero] at q0
  clear hc hs
  obtain ⟨i0, hi, hz0, hz1, hz2⟩ := info_parts int_info
  go_enter Try.func31, Try.ntmps31
  go_wp2_with (at_make; refine wpList_make_own _ rfl _ _ 70 rfl (w.heap.size + 1) 3 i0 (.int .i64 0) 1 Try.underlying70 hi hz0 hz1 _ _ _ (n + 1) rfl rfl (by omega) (by rw [hz2]; omega) (by unfold maxLen; omega) (by simp) ?_; intro w2 hown hgrow; have p1 := hgrow.cell (a := ⟨w.heap.size, 0, none⟩) (v := .slice (some ⟨b, off, none⟩) n cap) (by simp [go_sem]) (by simp); have hB2 : Below w.heap.size w w2 := Below.grown ((Below.refl _ w).alloc (Nat.le_refl _) _) hgrow (by simp) (by intro k hk; cases hk); have p2 := (hB2.cell (p := ⟨b, off, none⟩) hb).trans q0; have p3 : w.heap.size + 1 ≤ w2.heap.size := by have := hgrow.size; simp at this; exact this)
  have R0 : RowV w2 r0 (L 0) (K 0) (Y 0) := by
    obtain ⟨ra, rc, _, e1, e2⟩ := HC.out w2 hB2 0 h1
    rw [Nat.add_zero, p2] at e1
    have e3 := Option.some.inj e1
    simp only [Value.slice.injEq] at e3
    rw [e3.1]
    exact e2
  refine (needs_row (L 0) c0 (K 0) (Y 0) r0 _ (by have := (HS.out 0 h1).2; omega) R0 (HS.out 0 h1).1).mono ?_; rintro e w3 ⟨rfl, hB3⟩
  have hC3 := hB2.trans (hB3.mono hB2.size)
  have hown2 : w2.ownsRow (w.heap.size + 1) 3 1 (.slice (some ⟨w.heap.size + 1, 0, none⟩) 0 (n + 1)) 0 [] := by simpa using hown
  have hO3 := hown2.kept (row := none) ⟨hB3.os, hB3.tape, hB3.output, hB3.size, fun j hj _ => hB3.block j hj⟩ (by simp [Value.ownBlock])
  have p4 := (hB3.cell (p := ⟨w.heap.size, 0, none⟩) (by show w.heap.size < w2.heap.size; omega)).trans p1
  have hz3 : w.heap.size + 1 ≤ w3.heap.size := Nat.le_trans p3 hB3.size
  have HO3 := Lib.hid hO3
  clear hO3 hown hown2 hgrow hB3 R0 p1 p2 q0
  go_wp2_with (at_builtin; refine wpList_append_fits _ rfl _ _ 70 rfl (w.heap.size + 1) 3 i0 1 Try.underlying70 hi hz1 _ 0 (n + 1) _ rfl (HO3.out.alloc _) ⟨w3.heap.size, 0, none⟩ 1 1 [.int .i64 (L 0)] rfl rfl (cell_one_new _ _ _) (by simp [Value.oneCell']) (by omega) ?_; intro w4 hown4 hgrow4; have p5 := hgrow4.cell (a := ⟨w.heap.size, 0, none⟩) ((World.cell?_of_block (Below.heap_alloc w3 _ w.heap.size (by omega))).trans p4) (by simp [Value.ownBlock]))
  have hC4 : Below w.heap.size w w4 := Below.grown (hC3.alloc hC3.size _) hgrow4 (by simp; omega) (fun j hj => by cases hj; omega)
  have hz4 : w.heap.size + 1 ≤ w4.heap.size := Nat.le_trans (by simp; omega) hgrow4.size
  have HO4 : Hid (w4.ownsRow (w.heap.size + 1) 3 1 (.slice (some ⟨w.heap.size + 1, 0, none⟩) 1 (n + 1)) 1 (ints 1 (wid L))) := Lib.hid (by simpa [ints, wid] using hown4)
  clear hown4 hgrow4 HO3 p4
  go_wp2_with fail
  go_loopw [3, 26] (fun o i wr => ∃ k : Nat, k ≤ n ∧ i = .int .i64 k ∧ o = .slice (some ⟨w.heap.size + 1, 0, none⟩) (k + 1) (n + 1) ∧ wr.ownsRow (w.heap.size + 1) 3 1 (.slice (some ⟨w.heap.size + 1, 0, none⟩) (k + 1) (n + 1)) (k + 1) (ints (k + 1) (wid L)) ∧ Below w.heap.size w wr ∧ w.heap.size + 1 ≤ wr.heap.size) (fun _ i _ => n - (intOf i).toNat)
  case atStart => exact ⟨0, Nat.zero_le _, rfl, rfl, HO4.out, hC4, hz4⟩
  case round =>
    obtain ⟨k, hk, rfl, rfl, hrow, hB, hsz⟩ := hrel
    have HO := Lib.hid hrow
    clear hrow
    by_cases hkn : k < n
    · obtain ⟨ra, rc, q1, q2, q3⟩ := HC.out wr hB k hkn
      have QR := Lib.hid q3
      clear q3
      go_wp2_with fail
      refine (makes_row (L k) rc (K k) (Y k) ra _ (by have := (HS.out k hkn).2; omega) QR.out (HS.out k hkn).1).mono ?_; rintro e w5 ⟨rfl, hB5⟩
      have hC5 := hB.trans (hB5.mono hB.size)
      have HO5 := Lib.hid (HO.out.kept (row := none) ⟨hB5.os, hB5.tape, hB5.output, hB5.size, fun j hj _ => hB5.block j hj⟩ (by simp [Value.ownBlock]))
      have hz5 := hB5.size
      clear HO hB5 QR q2
      go_wp2_with (at_builtin; refine wpList_append_fits _ rfl _ _ 70 rfl (w.heap.size + 1) 3 i0 1 Try.underlying70 hi hz1 _ (k + 1) (n + 1) _ rfl (HO5.out.alloc _) ⟨w5.heap.size, 0, none⟩ 1 1 [.int .i64 (L k)] rfl rfl (cell_one_new _ _ _) (by simp [Value.oneCell']) (by omega) ?_; intro w6 hown6 hgrow6)
      have hC6 : Below w.heap.size w w6 := Below.grown (hC5.alloc hC5.size _) hgrow6 (by simp; omega) (fun j hj => by cases hj; omega)
      have hz6 : w.heap.size + 1 ≤ w6.heap.size := Nat.le_trans (by simp; omega) hgrow6.size
      have e6 : ints (k + 1) (wid L) ++ [.int .i64 (L k)] = ints (k + 1 + 1) (wid L) := (ints_snoc (k + 1) (wid L)).symm
      rw [e6] at hown6
      have HO6 := Lib.hid hown6
      clear hown6 hgrow6 HO5 e6
      go_roundw
      case rel => exact ⟨k + 1, by omega, by go_num, rfl, HO6.out, hC6, hz6⟩
      case measure => simp [intOf]; omega
    · obtain rfl : k = n := by omega
      have HR2 := Lib.hid (row_full HO.out)
      clear HO
      go_wp2
      go_ret
      exact ⟨w.heap.size + 1, rfl, HR2.out, Nat.le_succ _, hB⟩

/-- What Loads and Check tell: 0 exactly if the chart is valid. -/
def LCPost (w : World) (n : Nat) (L : Nat → Nat) (e : Ending) (w' : World) : Prop := ∃ v c, e = .returned (.tuple #[v, .int .i64 c]) ∧ (c = 0 ↔ ValidC n L) ∧ Below w.heap.size w w'
theorem noWay_lc {P : Program} {fn : Func} {w : World} {n : Nat} {L : Nat → Nat} : NoWay (bodyPost P fn (LCPost w n L)) :=
  noWay_body (fun _ _ h => by obtain ⟨_, _, h, _⟩ := h; cases h) (fun _ h => by obtain ⟨_, _, h, _⟩ := h; cases h)

set_option maxRecDepth 20000 in
set_option maxHeartbeats 1000000 in
theorem chart_big (n cap : Nat) (L : Nat → Nat) (ao : Option Addr) (w : World) (hn : n ≤ 1000000) (hbad : ¬ (n % 2 = 1 ∧ n ≤ 31)) :
    Calls Try.prog 29 #[.agg #[.slice ao n cap]] w (LCPost w n L) := by
  have HB : Hid (∀ c : Int, c ≠ 0 → (c = 0 ↔ ValidC n L)) := Lib.hid fun c hc => ⟨fun h => absurd h hc, fun h => absurd ⟨h.1, h.2.1⟩ hbad⟩
  by_cases h31 : 31 < n
  · clear hbad
    go_enter Try.func29, Try.ntmps29
    go_wp2
    go_ret2
    exact ⟨_, 3, rfl, HB.out 3 (by omega), by go_grown⟩
  · have h2 : (n : Int) % 2 = 0 := by omega
    clear hbad
    have hd : ((n : Int) % 2 == 0) = true := by simpa using h2
    clear h2
    go_enter Try.func29, Try.ntmps29
    go_wp2
    go_ret2
    exact ⟨_, 1, rfl, HB.out 1 (by omega), by go_grown⟩

theorem rowErr_iff (n : Nat) : rowErr n = 0 ↔ 1 ≤ n ∧ n ≤ 16 := by
  unfold rowErr
  split
  · omega
  · split
    · omega
    · omega

theorem row_not_owned {w : World} {g e e2 base n cap go : Nat} {cs xs : List Value} (h1 : Row w g e cs) (h2 : w.ownsRow base e2 1 (.slice (some ⟨go, 0, none⟩) n cap) n xs) (he : e ≠ e2) : g ≠ go := by
  rcases h2.2 with ⟨hh, _⟩ | ⟨g', cap', cur, hh, _, hb, _⟩
  · cases hh
  · have e1 : go = g' ∧ cap = cap' := by simpa using hh
    obtain ⟨rfl, rfl⟩ := e1
    rintro rfl
    have h : some (Obj.cells cs.toArray e (0, 0)) = some (.cells cur e2 (0, 0)) := h1.symm.trans hb
    simp only [Option.some.injEq, Obj.cells.injEq] at h
    exact he h.2.1
theorem wid_all (L : Nat → Nat) (n : Nat) (h : ∀ j, j < n → (L j : Int) = wid L j) : ∀ j, j < n → L j = L 0
  | 0, _ => rfl
  | j + 1, hj => by
    have h1 := h (j + 1) hj
    have h2 := wid_all L n h j (by omega)
    have e : wid L (j + 1) = (L j : Int) := rfl
    rw [e] at h1
    omega
theorem ints_info : (Try.prog.info? 70).map (fun i => (i.zero, i.size, i.bytes)) = some (some (.slice none 0 0), 1, 24) := by kernel_rfl
theorem row_ne {w : World} {g g2 e e2 : Nat} {cs ds : List Value} (h1 : Row w g e cs) (h2 : Row w g2 e2 ds) (he : e ≠ e2) : g ≠ g2 := by
  rintro rfl
  have h : some (Obj.cells cs.toArray e (0, 0)) = some (.cells ds.toArray e2 (0, 0)) := h1.symm.trans h2
  simp only [Option.some.injEq, Obj.cells.injEq] at h
  exact he h.2.1

set_option maxRecDepth 20000 in
set_option maxHeartbeats 8000000 in
theorem chart_rest (n cap b off : Nat) (L : Nat → Nat) (K Y : Nat → Nat → Int) (w : World) (h2 : n % 2 = 1) (hn : n ≤ 31) (hb : b < w.heap.size) (hc : ChartAt w b off n L K Y) (hs : SimpleChart n L K Y) :
    Calls Try.prog 29 #[.agg #[.slice (some ⟨b, off, none⟩) n cap]] w (LCPost w n L) := by
  have h1 : 1 ≤ n := by omega
  have HC := Lib.hid (fun w1 (hB : Below w.heap.size w w1) => hc.below hB (Nat.le_refl _) hb)
  have HW := Lib.hid (fun w1 (hB : Below w.heap.size w w1) => widths_any n cap b off L K Y w1 h1 (by omega) (Nat.lt_of_lt_of_le hb hB.size) (hc.below hB (Nat.le_refl _) hb) hs)
  have HS := Lib.hid hs
  have HB : Hid (∀ c : Int, c ≠ 0 → ¬ ValidC n L → (c = 0 ↔ ValidC n L)) := Lib.hid fun c hc hv => ⟨fun h => absurd h hc, fun h => absurd h hv⟩
  have hd : ((n : Int) % 2 == 0) = false := by simp; omega
  have hd31 : decide (31 < (n : Int)) = false := by simp; omega
  have H2 := Lib.hid h2
  clear hc hs h2
  obtain ⟨i0, hi, hz0, hz1, hz2⟩ := info_parts ints_info
  go_enter Try.func29, Try.ntmps29
  go_wp2_with fail
  go_loopw [27] (fun i wr => ∃ k : Nat, k ≤ n ∧ i = .int .i64 k ∧ Below w.heap.size w wr ∧ wr.cell? ⟨w.heap.size, 0, none⟩ = some (.slice (some ⟨b, off, none⟩) n cap) ∧ w.heap.size < wr.heap.size ∧ Hid (∀ j, j < k → rowErr (L j) = 0)) (fun i _ => n - (intOf i).toNat)
  case atStart => exact ⟨0, Nat.zero_le _, rfl, by go_grown, by simp [go_sem], by simp, Lib.hid (fun j hj => absurd hj (Nat.not_lt_zero _))⟩
  case round =>
    obtain ⟨k, hk, rfl, hB, c1, hsz, HJ⟩ := hrel
    by_cases hkn : k < n
    · obtain ⟨ra, rc, _, q2, q3⟩ := HC.out wr hB k hkn
      have QR := Lib.hid q3
      clear q3
      go_wp2_with fail
      refine (checkRow_simple (L k) rc (K k) (Y k) ra _ (by have := (HS.out k hkn).2; omega) QR.out (HS.out k hkn).1).mono ?_; rintro e w3 ⟨rfl, hB3⟩
      have hC3 := hB.trans (hB3.mono hB.size)
      have c3 := (hB3.cell (p := ⟨w.heap.size, 0, none⟩) hsz).trans c1
      have hsz3 : w.heap.size < w3.heap.size := Nat.lt_of_lt_of_le hsz hB3.size
      clear hB3 q2 QR
      by_cases he : rowErr (L k) = 0
      · have HJ2 : Hid (∀ j, j < k + 1 → rowErr (L j) = 0) := Lib.hid (fun j hj => by
          by_cases hjk : j = k
          · subst hjk; exact he
          · exact HJ.out j (by omega))
        rw [he]
        clear he
        go_wp2
        go_roundw
        case rel => exact ⟨k + 1, by omega, by go_num, hC3, c3, hsz3, HJ2⟩
        case measure => simp [intOf]; omega
      · have hne : (rowErr (L k) != 0) = true := by simpa using he
        have HE := Lib.hid he
        clear he
        have HV : Hid (¬ ValidC n L) := Lib.hid fun hv => HE.out ((rowErr_iff (L k)).2 (hv.2.2.1 k hkn))
        go_wp2
        go_ret2
        exact ⟨_, _, rfl, HB.out _ HE.out HV.out, hC3⟩
    · have HR : Hid (∀ j, j < n → 1 ≤ L j ∧ L j ≤ 16) := Lib.hid fun j hj => (rowErr_iff (L j)).1 (HJ.out j (by omega))
      obtain rfl : n = k := by omega
      clear HJ hkn hk
      go_wp2_with fail
      refine (HW.out _ hB).mono ?_; rintro e w3 ⟨gw, rfl, hr, hgw, hB3⟩
      have hC3 := hB.trans (hB3.mono hB.size)
      have c3 := (hB3.cell (p := ⟨w.heap.size, 0, none⟩) hsz).trans c1
      have hsz3 : w.heap.size < w3.heap.size := Nat.lt_of_lt_of_le hsz hB3.size
      have HGW := Lib.hid hr
      clear hr hB3 c1 hsz hgw
      go_wp2_with fail
      have hgl := HGW.out.lt
      go_loopw [42] (fun i wr => ∃ k : Nat, k ≤ n ∧ i = .int .i64 k ∧ Below w3.heap.size w3 wr ∧ Hid (∀ j, j < k → (L j : Int) = wid L j)) (fun i _ => n - (intOf i).toNat)
      case atStart => exact ⟨0, Nat.zero_le _, rfl, Below.refl _ _, Lib.hid (fun j hj => absurd hj (Nat.not_lt_zero _))⟩
      case round =>
        obtain ⟨k, hk, rfl, hB4, HJ⟩ := hrel
        have hC4 := hC3.trans (hB4.mono hC3.size)
        have hz4 := hB4.size
        by_cases hkn : k < n
        · obtain ⟨ra, rc, _, q2, q3⟩ := HC.out wr hC4 k hkn
          have QR := Lib.hid q3
          clear q3
          have cw : wr.cell? ⟨gw, k, none⟩ = some (.int .i64 (wid L k)) := (hB4.cell (p := ⟨gw, k, none⟩) hgl).trans (HGW.out.cell (ints_get _ (by omega)))
          have CW := Lib.hid cw
          clear cw
          go_wp2_with fail
          refine wp_region_floats [(1, [2, 3, 4, 5]), (0, [0]), (2, [1]), (0, [6])] (fun w' => Below wr.heap.size wr w') (by kernel_rfl) (by kernel_rfl) (by kernel_rfl) (noWay_lc (P := Try.prog) (fn := Try.f29) (w := w) (n := n) (L := L)) (Below.drew (Below.refl _ _)) ?_
          simp only [wpZ, wpFloats, wpOthers, picks, List.drop_succ_cons, List.drop_zero, List.take_succ_cons, List.take_zero, List.cons_append, List.nil_append]
          iterate 4
            apply Exists.intro
            refine ⟨fun w' hI => ?_, ?_⟩
            · have cw := (hI.cell (p := ⟨gw, k, none⟩) (Nat.lt_of_lt_of_le hgl hz4)).trans CW.out
              go_wp2
              exact ⟨trivial, rfl⟩
          go_wp2_with fail
          refine ⟨trivial, ?_⟩
          go_wp2_with fail
          refine (needs_row (L k) rc (K k) (Y k) ra wr.drew (by have := (HS.out k hkn).2; omega) QR.out (HS.out k hkn).1).mono ?_; rintro e w5 ⟨rfl, hB5⟩
          go_wp2_with fail
          have hC5 : Below w3.heap.size w3 w5 := (Below.drew hB4).trans (hB5.mono hz4)
          refine ⟨(Below.drew (Below.refl _ _)).trans hB5, ?_⟩
          clear hB5 QR q2 CW
          by_cases he : (L k : Int) = wid L k
          · have hne : ((L k : Int) != wid L k) = false := by simpa using he
            have HJ2 : Hid (∀ j, j < k + 1 → (L j : Int) = wid L j) := Lib.hid (fun j hj => by
              by_cases hjk : j = k
              · subst hjk; exact he
              · exact HJ.out j (by omega))
            clear he
            go_wp2
            refine ⟨trivial, ?_⟩
            go_wp2
            go_roundw
            case rel => exact ⟨k + 1, by omega, by go_num, hC5, HJ2⟩
            case measure => simp [intOf]; omega
          · have hne : ((L k : Int) != wid L k) = true := by simpa using he
            have HV : Hid (¬ ValidC n L) := Lib.hid fun hv => he (by
              cases k with
              | zero => rfl
              | succ j =>
                show (L (j + 1) : Int) = L j
                rw [hv.2.2.2 (j + 1) hkn, hv.2.2.2 j (by omega)])
            clear he
            go_wp2
            refine ⟨trivial, ?_⟩
            go_wp2
            go_ret2
            exact ⟨_, 14, rfl, HB.out 14 (by omega) HV.out, hC3.trans (hC5.mono hC3.size)⟩
        · have HL : Hid (∀ j, j < n → L j = L 0) := Lib.hid fun j hj => wid_all L n (fun j hj => HJ.out j (by omega)) j hj
          have HV : Hid (ValidC n L) := Lib.hid ⟨H2.out, hn, HR.out, HL.out⟩
          obtain ⟨hm1, hm2⟩ := HR.out 0 h1
          obtain rfl : n = k := by omega
          have c4 := (hB4.cell (p := ⟨w.heap.size, 0, none⟩) hsz3).trans c3
          have cw := (hB4.cell (p := ⟨gw, 0, none⟩) hgl).trans (HGW.out.cell (ints_get _ (Nat.succ_pos _)))
          have hw0 : wid L 0 = (L 0 : Int) := rfl
          rw [hw0] at cw
          have hsz4 : w.heap.size < wr.heap.size := by omega
          have hgl4 : gw < wr.heap.size := by omega
          clear HJ hkn hk hw0 hd31 hd
          go_wp2_with (at_make; refine wpList_make_own _ rfl _ _ 66 rfl (w.heap.size + 1) 70 i0 (.slice none 0 0) 1 Try.underlying66 hi hz0 hz1 _ _ _ (n + 1) rfl rfl (by omega) (by rw [hz2]; omega) (by unfold maxLen; omega) (by omega) ?_; intro w6 hown6 hgrow6; have d1 := hgrow6.cell c4 (by simp); have d2 := hgrow6.cell cw (by simp); have hz6 := hgrow6.size; have hC6 : Below w.heap.size w w6 := Below.grown hC4 hgrow6 hC4.size (by intro k hk; cases hk))
          refine (ones_any (L 0) _ hm1 (by omega)).mono ?_; rintro e w7 ⟨g1, rfl, hr1, hg1, hB7⟩
          have hC7 : Below w.heap.size w w7 := hC6.trans (hB7.mono hC6.size)
          have d3 := (hB7.cell (p := ⟨w.heap.size, 0, none⟩) (by show w.heap.size < w6.heap.size; omega)).trans d1
          have hO7 := Lib.hid (hown6.kept (row := none) ⟨hB7.os, hB7.tape, hB7.output, hB7.size, fun j hj _ => hB7.block j hj⟩ (by simp [Value.ownBlock]))
          have HR1 := Lib.hid hr1
          have hz7 := hB7.size
          have hg7 := hr1.lt
          have hgo : wr.heap.size < w7.heap.size := by
            have := (hown6.lt wr.heap.size rfl).2
            omega
          clear hr1 hown6 hgrow6 hB7 d1 d2
          go_wp2_with (at_builtin; refine wpList_append_fits _ rfl _ _ 66 rfl (w.heap.size + 1) 70 i0 1 Try.underlying66 hi hz1 _ 0 (n + 1) _ rfl (hO7.out.alloc _) ⟨w7.heap.size, 0, none⟩ 1 1 [.slice (some ⟨g1, 0, none⟩) (L 0) (L 0)] rfl rfl (cell_one_new _ _ _) (by simp [Value.oneCell']) (by omega) ?_; intro w8 hown8 hgrow8; have d4 := hgrow8.cell (a := ⟨w.heap.size, 0, none⟩) ((World.cell?_of_block (Below.heap_alloc w7 _ w.heap.size (by omega))).trans d3) (by simp [Value.ownBlock]; omega))
          have hC8 : Below w.heap.size w w8 := Below.grown (hC7.alloc hC7.size _) hgrow8 (by simp; omega) (fun j hj => by cases hj; omega)
          have hz8 := hgrow8.size
          have hne1 : g1 ≠ wr.heap.size := fun h => (row_not_owned HR1.out (e2 := 70) (hO7.out) (by decide)) h
          have HR8 : Hid (Row w8 g1 3 (ints (L 0) fun _ => 1)) := Lib.hid (Row.of_heap (HR1.out.alloc _) (hgrow8.block g1 (by simp; omega) (by simpa [Value.ownBlock] using hne1)))
          have HO8 := Lib.hid hown8
          have hgo8 : wr.heap.size < w8.heap.size := by simp at hz8; omega
          clear hown8 hgrow8 hO7 HR1 d3 d4
          obtain ⟨wo, rfl⟩ : ∃ wo : World, wo = wr := ⟨_, rfl⟩
          go_loopw [10, 70] (fun o i wr => ∃ (k : Nat) (xs : List Value) (g : Nat), k ≤ n ∧ i = .int .i64 k ∧ o = .slice (some ⟨wo.heap.size, 0, none⟩) (k + 1) (n + 1) ∧ wr.ownsRow (w.heap.size + 1) 70 1 (.slice (some ⟨wo.heap.size, 0, none⟩) (k + 1) (n + 1)) (k + 1) xs ∧ xs[k]? = some (.slice (some ⟨g, 0, none⟩) (L 0) (L 0)) ∧ Row wr g 3 (ints (L 0) fun _ => 1) ∧ Below w.heap.size w wr ∧ wo.heap.size < wr.heap.size) (fun _ i _ => n - (intOf i).toNat)
          case atStart => exact ⟨0, _, g1, Nat.zero_le _, rfl, rfl, HO8.out, rfl, HR8.out, hC8, hgo8⟩
          case round =>
            obtain ⟨k, xs, g, hk, rfl, rfl, hrow, hx, hr9, hB9, hgo9⟩ := hrel
            have HO9 := Lib.hid hrow
            have HX := Lib.hid hx
            have HR9 := Lib.hid hr9
            clear hrow hx hr9
            by_cases hkn : k < n
            · obtain ⟨ra, rc, hrc, q2, q3⟩ := HC.out wr hB9 k hkn
              rcases q3 with h0 | ⟨b2, o2, rfl, hb2, q3⟩
              · have := (HR.out k hkn).1
                omega
              have hLk := HL.out k hkn
              rw [hLk] at hrc q2 q3
              have HLk := Lib.hid hLk
              have cx := HO9.out.cells rfl k _ HX.out
              rw [add_zero_addr] at cx
              have HCALL := Lib.hid (loads_simple (L 0) rc (L 0) b2 o2 g 0 (K k) (Y k) wr hm1 (by omega) (Nat.le_refl _) hb2 q3 (by have := (HS.out k hkn).1; rwa [hLk] at this) HR9.out.lt (fun i hi => by rw [Nat.zero_add]; exact HR9.out.cell (ints_get _ hi)))
              clear q3 hLk
              go_wp2_with fail
              refine (HCALL.out).mono ?_; rintro e w10 ⟨g8, rfl, hr10, hg8, hB10⟩
              have hC10 : Below w.heap.size w w10 := hB9.trans (hB10.mono hB9.size)
              have HO10 := Lib.hid (HO9.out.kept (row := none) ⟨hB10.os, hB10.tape, hB10.output, hB10.size, fun j hj _ => hB10.block j hj⟩ (by simp [Value.ownBlock]))
              have HR10 := Lib.hid hr10
              have hz10 := hB10.size
              have hne8 : g8 ≠ wo.heap.size := fun h => (row_not_owned hr10 (e2 := 70) (HO10.out) (by decide)) h
              have hg10 := hr10.lt
              clear hr10 hB10 cx HCALL HX HR9 HO9 q2
              go_wp2_with (at_builtin; refine wpList_append_fits _ rfl _ _ 66 rfl (w.heap.size + 1) 70 i0 1 Try.underlying66 hi hz1 _ (k + 1) (n + 1) _ rfl (HO10.out.alloc _) ⟨w10.heap.size, 0, none⟩ 1 1 [.slice (some ⟨g8, 0, none⟩) (L 0) (L 0)] rfl rfl (cell_one_new _ _ _) (by simp [Value.oneCell']) (by omega) ?_; intro w11 hown11 hgrow11)
              have hC11 : Below w.heap.size w w11 := Below.grown (hC10.alloc hC10.size _) hgrow11 (by simp; omega) (fun j hj => by cases hj; omega)
              have hz11 := hgrow11.size
              simp at hz11
              have HR11 : Hid (Row w11 g8 3 (ints (L 0) fun _ => 1)) := Lib.hid (Row.of_heap (HR10.out.alloc _) (hgrow11.block g8 (by simp; omega) (by simpa [Value.ownBlock] using hne8)))
              have HO11 := Lib.hid hown11
              have hxl : (xs ++ [.slice (some ⟨g8, 0, none⟩) (L 0) (L 0)])[k + 1]? = some (.slice (some ⟨g8, 0, none⟩) (L 0) (L 0)) := by
                have hl : xs.length = k + 1 := by simpa using HO10.out.1
                rw [List.getElem?_append_right (by omega), hl]
                simp
              clear hown11 hgrow11 HO10 HR10
              go_roundw
              case rel => exact ⟨k + 1, _, g8, by omega, by go_num, rfl, HO11.out, hxl, HR11.out, hC11, by omega⟩
              case measure => simp [intOf]; omega
            · clear HX HR9 HO9
              go_wp2
              go_ret2
              exact ⟨_, 0, rfl, ⟨fun _ => HV.out, fun _ => rfl⟩, hB9⟩

end Go.Proofs.Ytblcphibkcjmdaa
