/-
  The contract of gauges.Widths.
-/
import Derived.Test.YtknkpmckgaloaaaGe
import Derived.Test.YtknkpmckgaloaaaGc
namespace Go.Proofs.Ytknkpmckgaloaaa
open Go.RowKit

def aN (n : Nat) (h v : Nat → Int) (b a : Int) : Int := if h (n - 1) * b ≤ a then v (n - 1) else atNum h v b a (seek h b a (n - 1) 0)
def aD (n : Nat) (h : Nat → Int) (b a : Int) : Int := if h (n - 1) * b ≤ a then 1 else atDen h b (seek h b a (n - 1) 0)

theorem at_any (n cap : Nat) (h v : Nat → Int) (a b : Int) (bk off : Nat) (w : World) (hn : n ≤ 100000) (hb1 : 1 ≤ b) (hb2 : b ≤ 1000) (ha1 : 0 ≤ a) (ha2 : a ≤ 1000000) (hlt : bk < w.heap.size)
    (hp : PtsAt w bk off n h v) (hok : PtsOk n h v) :
    Calls Try.prog 24 #[.slice (some ⟨bk, off, none⟩) n cap, .int .i64 a, .int .i64 b] w (AtPost w (aN n h v b a) (aD n h b a)) := by
  unfold aN aD
  by_cases hc : h (n - 1) * b ≤ a
  · rw [if_pos hc, if_pos hc]
    exact at_end n cap h v a b bk off w hn hb1 hb2 ha1 ha2 hp hok hc
  · rw [if_neg hc, if_neg hc]
    exact at_mid n cap h v a b bk off w hn hb1 hb2 ha1 ha2 hlt hp hok (by omega)

theorem seek_low (h : Nat → Int) (b a : Int) : ∀ f i, h i * b ≤ a → h (seek h b a f i) * b ≤ a
  | 0, i, hi => hi
  | f + 1, i, hi => by
    unfold seek
    split
    · rename_i hc
      exact seek_low h b a f (i + 1) hc
    · exact hi

theorem seek_facts (n : Nat) (h v : Nat → Int) (b a : Int) (hok : PtsOk n h v) (_hb : 1 ≤ b) (ha : 0 ≤ a) (hc : ¬ h (n - 1) * b ≤ a) :
    seek h b a (n - 1) 0 + 1 < n ∧ h (seek h b a (n - 1) 0) * b ≤ a ∧ a < h (seek h b a (n - 1) 0 + 1) * b := by
  obtain ⟨hn2, h0, hbd, hm⟩ := hok
  obtain ⟨h1, h2, h3⟩ := seek_last h b a (n - 1) 0 (by rw [Nat.zero_add]; omega) (by omega)
  refine ⟨by omega, seek_low h b a _ _ (by rw [h0]; omega), h3⟩

/-- Between two points: the width is between theirs. -/
theorem between (x y t d : Int) (_hd : 0 < d) (ht : 0 ≤ t) (htd : t ≤ d) (hx : 0 ≤ x) (hx2 : x ≤ 20000) (hy : 0 ≤ y) (hy2 : y ≤ 20000) : 0 ≤ x * d + (y - x) * t ∧ x * d + (y - x) * t ≤ 20000 * d := by
  have e : x * d + (y - x) * t = x * (d - t) + y * t := by
    rw [Int.mul_sub, Int.sub_mul]; omega
  rw [e]
  have m1 : 0 ≤ x * (d - t) := Int.mul_nonneg hx (by omega)
  have m2 : 0 ≤ y * t := Int.mul_nonneg hy ht
  have m3 : x * (d - t) ≤ 20000 * (d - t) := Int.mul_le_mul_of_nonneg_right hx2 (by omega)
  have m4 : y * t ≤ 20000 * t := Int.mul_le_mul_of_nonneg_right hy2 ht
  omega

theorem aD_bd (n : Nat) (h v : Nat → Int) (b a : Int) (hok : PtsOk n h v) (hb : 1 ≤ b) (hb2 : b ≤ 1000) (ha : 0 ≤ a) :
    1 ≤ aD n h b a ∧ aD n h b a ≤ 20000000 ∧ 0 ≤ aN n h v b a ∧ aN n h v b a ≤ 20000 * aD n h b a := by
  unfold aN aD
  by_cases hc : h (n - 1) * b ≤ a
  · rw [if_pos hc, if_pos hc]
    have := hok.2.2.1 (n - 1) (by have := hok.1; omega)
    omega
  · rw [if_neg hc, if_neg hc]
    obtain ⟨h1, h2, h3⟩ := seek_facts n h v b a hok hb ha hc
    generalize seek h b a (n - 1) 0 = i at *
    obtain ⟨hn2, h0, hbd, hm⟩ := hok
    have d1 := hbd i (by omega)
    have d2 := hbd (i + 1) (by omega)
    have d3 := hm i (by omega)
    unfold atNum atDen
    have e : (h (i + 1) - h i) * b = h (i + 1) * b - h i * b := Int.sub_mul _ _ _
    obtain ⟨m1, m2⟩ := mul_bd (h (i + 1) - h i) b 20000 1000 (by omega) (by omega) (by omega) hb2
    obtain ⟨m3, m4⟩ := between (v i) (v (i + 1)) (a - h i * b) ((h (i + 1) - h i) * b) (by omega) (by omega) (by omega) (by omega) (by omega) (by omega) (by omega)
    omega

/-- The stitches of row k. -/
def widthAt (n : Nat) (h v : Nat → Int) (s r : Int) (k : Nat) : Int := rnd (aN n h v (2 * r) (100 * (2 * (k : Int) + 1)) * s) (100 * aD n h (2 * r) (100 * (2 * (k : Int) + 1)))

def gaugeOk (s r : Int) : Prop := 1 ≤ s ∧ s ≤ 400 ∧ 1 ≤ r ∧ r ≤ 400

def ErrPost (w : World) (c : Int) (e : Ending) (w' : World) : Prop := e = .returned (.tuple #[.slice none 0 0, .int .i64 c]) ∧ Below w.heap.size w w'

set_option maxHeartbeats 1000000 in
theorem widths_gauge (n cap : Nat) (s r : Int) (ao : Option Addr) (w : World) (hbad : ¬ gaugeOk s r) :
    Calls Try.prog 17 #[.agg #[.int .i64 s, .int .i64 r], .slice ao n cap] w (ErrPost w 1) := by
  have hg : gr s r = max (max 0 s) r := rfl
  have HB : 400 < gr s r ∨ (gr s r ≤ 400 ∧ s < 1) ∨ (gr s r ≤ 400 ∧ 1 ≤ s ∧ r < 1) := by
    unfold gaugeOk at hbad; omega
  clear hbad hg
  rcases HB with h1 | ⟨h1, h2⟩ | ⟨h1, h2, h3⟩
  all_goals
    go_enter Try.func17, Try.ntmps17
    go_wp2_with (go_at_call 22; go_call (greatest_two s r _ _) as e w' ⟨rfl, rfl⟩)
    go_ret2
    exact ⟨rfl, by go_grown⟩

set_option maxHeartbeats 1000000 in
theorem widths_outline (n cap : Nat) (s r : Int) (ao : Option Addr) (w : World) (hok : gaugeOk s r)
    (hbad : ∀ w1, Below w.heap.size w w1 → Calls Try.prog 23 #[.slice ao n cap] w1 (ValidPost w1 false)) :
    Calls Try.prog 17 #[.agg #[.int .i64 s, .int .i64 r], .slice ao n cap] w (ErrPost w 1) := by
  obtain ⟨s1, s2, r1, r2⟩ := hok
  have hg : gr s r ≤ 400 := by unfold gr; omega
  have HB := Lib.hid hbad
  clear hbad
  go_enter Try.func17, Try.ntmps17
  go_wp2_with (first | (go_at_call 22; go_call (greatest_two s r _ _) as e w' ⟨rfl, rfl⟩) | (go_at_call 23; refine (HB.out _ (by go_grown)).mono ?_; rintro e w' ⟨rfl, hb1⟩))
  go_ret2
  have hs := hb1.size
  simp at hs
  exact ⟨rfl, Below.trans (by go_grown) (hb1.mono (by simp; omega))⟩

def rowsOf (r top : Int) : Int := rnd (r * top) 100

set_option maxHeartbeats 4000000 in
theorem widths_limit (n cap : Nat) (h v : Nat → Int) (s r : Int) (bk off : Nat) (w : World) (hn : n ≤ 100000) (hlt : bk < w.heap.size) (hp : PtsAt w bk off n h v) (hv : validP n h v) (hok : gaugeOk s r) (hbig : 400 < rowsOf r (h (n - 1))) :
    Calls Try.prog 17 #[.agg #[.int .i64 s, .int .i64 r], .slice (some ⟨bk, off, none⟩) n cap] w (ErrPost w 3) := by
  obtain ⟨s1, s2, r1, r2⟩ := hok
  have hg : gr s r ≤ 400 := by unfold gr; omega
  have hpo := validP_ok hv
  have HO := Lib.hid hpo
  obtain ⟨hn2, _, hbd, _⟩ := hpo
  obtain ⟨b1, b2, b3, b4⟩ := hbd (n - 1) (by omega)
  have hbw : ∀ w1, Below w.heap.size w w1 → PtsAt w1 bk off n h v := fun w1 hb k hk => ⟨(hb.cell (p := ⟨bk, off + k * 2, none⟩) hlt).trans (hp k hk).1, (hb.cell (p := ⟨bk, off + k * 2 + 1, none⟩) hlt).trans (hp k hk).2⟩
  have HV := Lib.hid (fun w1 (hb : Below w.heap.size w w1) => valid_yes n cap h v bk off w1 hn (by have := hb.size; omega) (hbw w1 hb) hv)
  have HP := Lib.hid (fun w1 (hb : Below w.heap.size w w1) => (hb.cell (p := ⟨bk, off + (n - 1) * 2, none⟩) hlt).trans (hp (n - 1) (by omega)).1)
  have HA := Lib.hid (fun w1 (hb : Below w.heap.size w w1) (k : Nat) (hk : k ≤ 400) => at_any n cap h v (100 * (2 * (k : Int) + 1)) (2 * r) bk off w1 hn (by omega) (by omega) (by omega) (by omega) (by have := hb.size; omega) (hbw w1 hb) HO.out)
  have HC := Lib.hid (fun w1 => count_yes r (h (n - 1)) w1 ⟨r1, r2, b1, b2⟩)
  have hbig2 : 400 < rnd (r * h (n - 1)) 100 := hbig
  clear hbig
  clear hp hv hbd hbw
  go_enter Try.func17, Try.ntmps17
  go_wp2_with (first | (go_at_call 22; go_call (greatest_two s r _ _) as e w' ⟨rfl, rfl⟩) | (go_at_call 23; refine (HV.out _ (by go_grown)).mono ?_; rintro e w' ⟨rfl, hb1⟩; have hb2 : Below w.heap.size w w' := Below.trans (by go_grown) (hb1.mono (by first | (simp; done) | (simp; omega))); have q1 : w'.cell? ⟨w.heap.size, 0, none⟩ = some (.int .i64 s) := (hb1.cell (p := ⟨w.heap.size, 0, none⟩) (by first | (simp; done) | (simp; omega))).trans (by simp [go_sem]); have q2 : w'.cell? ⟨w.heap.size, 1, none⟩ = some (.int .i64 r) := (hb1.cell (p := ⟨w.heap.size, 1, none⟩) (by first | (simp; done) | (simp; omega))).trans (by simp [go_sem]); have q3 := HP.out w' hb2; have q4 := hb2.size; have q5 := hb1.size; simp at q5; clear hb1))
  refine wp_region_cuts [(true, 9), (false, 1), (true, 5)] (by kernel_rfl) (by kernel_rfl) (by kernel_rfl) rfl (noWay_body (P := Try.prog) (fn := Try.f17) (R := ErrPost w 3) (fun _ _ h => nomatch h.1) (fun _ h => nomatch h.1)) ?_
  simp only [wpCuts, List.take_succ_cons, List.take_zero, List.drop_succ_cons, List.drop_zero, List.take_nil]
  go_wp2
  refine ⟨trivial, ?_⟩
  go_wp2_with (go_at_call 10; refine (HC.out _).mono ?_; rintro e w' ⟨rfl, rfl⟩)
  refine ⟨trivial, ?_⟩
  go_wp2
  go_ret2
  exact ⟨rfl, by go_grown⟩

def WidthsPost (w : World) (n : Nat) (W : Nat → Int) (e : Ending) (w' : World) : Prop :=
  ∃ g, e = .returned (.tuple #[.slice (some ⟨g, 0, none⟩) n n, .int .i64 0]) ∧ w'.ownsRow w.heap.size 3 1 (.slice (some ⟨g, 0, none⟩) n n) n (ints n W) ∧ Below w.heap.size w w'

theorem noWay_widths {P : Program} {fn : Func} {w : World} {n : Nat} {W : Nat → Int} : NoWay (bodyPost P fn (WidthsPost w n W)) :=
  noWay_body (fun _ _ h => by obtain ⟨_, h, _⟩ := h; cases h) (fun _ h => by obtain ⟨_, h, _⟩ := h; cases h)

theorem num_bd (A D s : Int) (h1 : 1 ≤ D) (h2 : D ≤ 20000000) (h3 : 0 ≤ A) (h4 : A ≤ 20000 * D) (s1 : 1 ≤ s) (s2 : s ≤ 400) : 0 ≤ A * s ∧ A * s ≤ 400000000000000 :=
  have m := mul_bd A s 1000000000000 400 h3 (by omega) (by omega) s2
  ⟨m.1, by omega⟩

set_option maxHeartbeats 4000000 in
theorem widths_ok (n cap : Nat) (h v : Nat → Int) (s r : Int) (bk off : Nat) (w : World) (hn : n ≤ 100000) (hlt : bk < w.heap.size) (hp : PtsAt w bk off n h v) (hv : validP n h v) (hok : gaugeOk s r) (N : Nat) (hN : N ≤ 400) (hrows : rowsOf r (h (n - 1)) = (N : Int)) (hN1 : 1 ≤ N) (hw : ∀ k, k < N → widthAt n h v s r k ≠ 0) :
    Calls Try.prog 17 #[.agg #[.int .i64 s, .int .i64 r], .slice (some ⟨bk, off, none⟩) n cap] w (WidthsPost w N (widthAt n h v s r)) := by
  obtain ⟨s1, s2, r1, r2⟩ := hok
  have hg : gr s r ≤ 400 := by unfold gr; omega
  have hpo := validP_ok hv
  have HO := Lib.hid hpo
  obtain ⟨hn2, _, hbd, _⟩ := hpo
  obtain ⟨b1, b2, b3, b4⟩ := hbd (n - 1) (by omega)
  have hbw : ∀ w1, Below w.heap.size w w1 → PtsAt w1 bk off n h v := fun w1 hb k hk => ⟨(hb.cell (p := ⟨bk, off + k * 2, none⟩) hlt).trans (hp k hk).1, (hb.cell (p := ⟨bk, off + k * 2 + 1, none⟩) hlt).trans (hp k hk).2⟩
  have HV := Lib.hid (fun w1 (hb : Below w.heap.size w w1) => valid_yes n cap h v bk off w1 hn (by have := hb.size; omega) (hbw w1 hb) hv)
  have HP := Lib.hid (fun w1 (hb : Below w.heap.size w w1) => (hb.cell (p := ⟨bk, off + (n - 1) * 2, none⟩) hlt).trans (hp (n - 1) (by omega)).1)
  have HA := Lib.hid (fun w1 (hb : Below w.heap.size w w1) (k : Nat) (hk : k ≤ 400) => at_any n cap h v (100 * (2 * (k : Int) + 1)) (2 * r) bk off w1 hn (by omega) (by omega) (by omega) (by omega) (by have := hb.size; omega) (hbw w1 hb) HO.out)
  obtain ⟨i0, hi, hz0, hz1, hz2⟩ := info_parts even_info
  have HW := Lib.hid hw
  clear hw
  have HC : Hid (∀ w1, Calls Try.prog 10 #[.int .i64 r, .int .i64 (h (n - 1))] w1 fun e w' => e = .returned (two (N : Int) 0) ∧ w1 = w') := Lib.hid (fun w1 => by
    have := count_yes r (h (n - 1)) w1 ⟨r1, r2, b1, b2⟩
    unfold rowsOf at hrows
    rwa [hrows] at this)
  clear hrows
  clear hp hv hbd hbw
  go_enter Try.func17, Try.ntmps17
  go_wp2_with (first | (go_at_call 22; go_call (greatest_two s r _ _) as e w' ⟨rfl, rfl⟩) | (go_at_call 23; refine (HV.out _ (by go_grown)).mono ?_; rintro e w' ⟨rfl, hb1⟩; have hb2 : Below w.heap.size w w' := Below.trans (by go_grown) (hb1.mono (by first | (simp; done) | (simp; omega))); have q1 : w'.cell? ⟨w.heap.size, 0, none⟩ = some (.int .i64 s) := (hb1.cell (p := ⟨w.heap.size, 0, none⟩) (by first | (simp; done) | (simp; omega))).trans (by simp [go_sem]); have q2 : w'.cell? ⟨w.heap.size, 1, none⟩ = some (.int .i64 r) := (hb1.cell (p := ⟨w.heap.size, 1, none⟩) (by first | (simp; done) | (simp; omega))).trans (by simp [go_sem]); have q3 := HP.out w' hb2; have q4 := hb2.size; have q5 := hb1.size; simp at q5; clear hb1))
  refine wp_region_cuts [(true, 9), (false, 1), (true, 5)] (by kernel_rfl) (by kernel_rfl) (by kernel_rfl) rfl (noWay_widths (P := Try.prog) (fn := Try.f17) (w := w) (n := N) (W := widthAt n h v s r)) ?_
  simp only [wpCuts, List.take_succ_cons, List.take_zero, List.drop_succ_cons, List.drop_zero, List.take_nil]
  go_wp2
  refine ⟨trivial, ?_⟩
  go_wp2_with (go_at_call 10; refine (HC.out _).mono ?_; rintro e w' ⟨rfl, rfl⟩)
  refine ⟨trivial, ?_⟩
  go_wp2_with (at_make; refine wpList_make_own _ rfl _ _ 31 rfl (w.heap.size + 1) 3 i0 (.int .i64 0) 1 Try.underlying31 hi hz0 hz1 _ _ _ N rfl rfl rfl (by rw [hz2]; omega) (by unfold maxLen; omega) (by first | (simp; done) | (simp; omega)) ?_; intro w1 hown hgrow; have hb3 : Below w.heap.size w w1 := Below.grown hb2.drew hgrow (by first | (simp; done) | (simp; omega)) (by intro k hk; cases hk); have p1 := hgrow.cell (a := ⟨w.heap.size, 0, none⟩) q1 (by simp); have p2 := hgrow.cell (a := ⟨w.heap.size, 1, none⟩) q2 (by simp); have p3 := hgrow.size; simp at p3; clear hgrow)
  clear q1 q2 q3 hb2 q4
  go_loopw [52, 8] (fun i o wr => ∃ k : Nat, k ≤ N ∧ i = .int .i64 k ∧ ∃ g, o = .slice (some ⟨g, 0, none⟩) k N ∧ wr.ownsRow (w.heap.size + 1) 3 1 (.slice (some ⟨g, 0, none⟩) k N) k (ints k (widthAt n h v s r)) ∧ Below w.heap.size w wr ∧ wr.cell? ⟨w.heap.size, 0, none⟩ = some (.int .i64 s) ∧ wr.cell? ⟨w.heap.size, 1, none⟩ = some (.int .i64 r) ∧ w.heap.size + 1 ≤ wr.heap.size) (fun i _ _ => N - (intOf i).toNat)
  case atStart => exact ⟨0, Nat.zero_le _, rfl, _, rfl, by simpa [ints] using hown, hb3, p1, p2, by omega⟩
  case round =>
    obtain ⟨k, hk, rfl, g, rfl, hrow, hB, c1, c2, hsz⟩ := hrel
    by_cases hkN : k < N
    · obtain ⟨x1, x2, x3, x4⟩ := aD_bd n h v (2 * r) (100 * (2 * (k : Int) + 1)) HO.out (by omega) (by omega) (by omega)
      obtain ⟨x5, x6⟩ := num_bd _ _ s x1 x2 x3 x4 s1 s2
      have hown0 : g ≠ w.heap.size := by
        have := (hrow.lt g rfl).1
        omega
      have t1 : (widthAt n h v s r k == 0) = false := by simpa using HW.out k hkN
      go_wp2_with (first
        | (go_at_call 24; refine (HA.out _ hB k (by omega)).mono ?_; rintro e w2 ⟨rfl, hb4⟩; have d1 := (hb4.cell (p := ⟨w.heap.size, 0, none⟩) (by first | (simp; done) | (simp; omega))).trans c1; have d2 := (hb4.cell (p := ⟨w.heap.size, 1, none⟩) (by first | (simp; done) | (simp; omega))).trans c2; have d3 := hb4.size; have hB2 := hB.trans (hb4.mono hB.size); have hrow2 : w2.ownsRow (w.heap.size + 1) 3 1 (.slice (some ⟨g, 0, none⟩) k N) k (ints k (widthAt n h v s r)) := hrow.kept (row := none) ⟨hb4.os, hb4.tape, hb4.output, hb4.size, fun j hj _ => hb4.block j hj⟩ (by simp [Value.ownBlock]); clear hb4)
        | (go_at_call 20; refine (round_any _ _ _ x5 (by omega) (by omega) (by omega)).mono ?_; rintro e w' ⟨rfl, rfl⟩)
        | (at_builtin; ((refine wpList_append_fits _ rfl _ _ 31 rfl (w.heap.size + 1) 3 i0 1 Try.underlying31 hi hz1 g k N _ rfl (hrow2.alloc _) ⟨w2.heap.size, 0, none⟩ 1 1 [.int .i64 (widthAt n h v s r k)] rfl rfl (cell_one_new _ _ _) (by simp [Value.oneCell']) (by omega) ?_; intro w3 hown3 hgrow3; have e1 := hgrow3.cell (a := ⟨w.heap.size, 0, none⟩) (v := .int .i64 s) ((World.cell?_of_block (Below.heap_alloc w2 _ w.heap.size (by omega))).trans d1) (fun hh => hown0 (Option.some.inj hh).symm); have e2 := hgrow3.cell (a := ⟨w.heap.size, 1, none⟩) (v := .int .i64 r) ((World.cell?_of_block (Below.heap_alloc w2 _ w.heap.size (by omega))).trans d2) (fun hh => hown0 (Option.some.inj hh).symm); have e3 : w2.heap.size + 1 ≤ w3.heap.size := Nat.le_trans (Nat.le_of_eq (World.size_alloc _ _).symm) hgrow3.size; have hB3 : Below w.heap.size w w3 := Below.grown (hB2.alloc (by omega) _) hgrow3 (by first | (simp; done) | (simp; omega)) (fun j hj => by cases hj; have := (hrow.lt g rfl).1; omega); rw [← ints_snoc] at hown3; have e4 := hown3.cells rfl k _ (ints_get _ (Nat.lt_succ_self k)); rw [add_zero_addr] at e4; clear hgrow3))))
      go_roundw
      case rel => exact ⟨k + 1, by omega, by go_num, g, by go_num, hown3, hB3, e1, e2, by omega⟩
      case measure => simp [intOf]; omega
    · obtain rfl : N = k := by omega
      have hN : ((N : Int) == 0) = false := by simp; omega
      go_wp2
      go_ret2
      refine ⟨g, rfl, ⟨hrow.1, ?_⟩, hB⟩
      rcases hrow.2 with ⟨hh, _⟩ | ⟨g', cp, cur, hh, hb, hr⟩
      · cases hh
      · exact Or.inr ⟨g', cp, cur, hh, by omega, hr⟩

set_option maxHeartbeats 4000000 in
theorem widths_zero (n cap : Nat) (h v : Nat → Int) (s r : Int) (bk off : Nat) (w : World) (hn : n ≤ 100000) (hlt : bk < w.heap.size) (hp : PtsAt w bk off n h v) (hv : validP n h v) (hok : gaugeOk s r) (N : Nat) (hN : N ≤ 400) (hrows : rowsOf r (h (n - 1)) = (N : Int)) (hz : N = 0 ∨ ∃ k, k < N ∧ widthAt n h v s r k = 0) :
    Calls Try.prog 17 #[.agg #[.int .i64 s, .int .i64 r], .slice (some ⟨bk, off, none⟩) n cap] w (ErrPost w 14) := by
  obtain ⟨s1, s2, r1, r2⟩ := hok
  have hg : gr s r ≤ 400 := by unfold gr; omega
  have hpo := validP_ok hv
  have HO := Lib.hid hpo
  obtain ⟨hn2, _, hbd, _⟩ := hpo
  obtain ⟨b1, b2, b3, b4⟩ := hbd (n - 1) (by omega)
  have hbw : ∀ w1, Below w.heap.size w w1 → PtsAt w1 bk off n h v := fun w1 hb k hk => ⟨(hb.cell (p := ⟨bk, off + k * 2, none⟩) hlt).trans (hp k hk).1, (hb.cell (p := ⟨bk, off + k * 2 + 1, none⟩) hlt).trans (hp k hk).2⟩
  have HV := Lib.hid (fun w1 (hb : Below w.heap.size w w1) => valid_yes n cap h v bk off w1 hn (by have := hb.size; omega) (hbw w1 hb) hv)
  have HP := Lib.hid (fun w1 (hb : Below w.heap.size w w1) => (hb.cell (p := ⟨bk, off + (n - 1) * 2, none⟩) hlt).trans (hp (n - 1) (by omega)).1)
  have HA := Lib.hid (fun w1 (hb : Below w.heap.size w w1) (k : Nat) (hk : k ≤ 400) => at_any n cap h v (100 * (2 * (k : Int) + 1)) (2 * r) bk off w1 hn (by omega) (by omega) (by omega) (by omega) (by have := hb.size; omega) (hbw w1 hb) HO.out)
  obtain ⟨i0, hi, hz0, hz1, hz2⟩ := info_parts even_info
  have HEX := Lib.hid hz
  clear hz
  have HC : Hid (∀ w1, Calls Try.prog 10 #[.int .i64 r, .int .i64 (h (n - 1))] w1 fun e w' => e = .returned (two (N : Int) 0) ∧ w1 = w') := Lib.hid (fun w1 => by
    have := count_yes r (h (n - 1)) w1 ⟨r1, r2, b1, b2⟩
    unfold rowsOf at hrows
    rwa [hrows] at this)
  clear hrows
  clear hp hv hbd hbw
  go_enter Try.func17, Try.ntmps17
  go_wp2_with (first | (go_at_call 22; go_call (greatest_two s r _ _) as e w' ⟨rfl, rfl⟩) | (go_at_call 23; refine (HV.out _ (by go_grown)).mono ?_; rintro e w' ⟨rfl, hb1⟩; have hb2 : Below w.heap.size w w' := Below.trans (by go_grown) (hb1.mono (by first | (simp; done) | (simp; omega))); have q1 : w'.cell? ⟨w.heap.size, 0, none⟩ = some (.int .i64 s) := (hb1.cell (p := ⟨w.heap.size, 0, none⟩) (by first | (simp; done) | (simp; omega))).trans (by simp [go_sem]); have q2 : w'.cell? ⟨w.heap.size, 1, none⟩ = some (.int .i64 r) := (hb1.cell (p := ⟨w.heap.size, 1, none⟩) (by first | (simp; done) | (simp; omega))).trans (by simp [go_sem]); have q3 := HP.out w' hb2; have q4 := hb2.size; have q5 := hb1.size; simp at q5; clear hb1))
  refine wp_region_cuts [(true, 9), (false, 1), (true, 5)] (by kernel_rfl) (by kernel_rfl) (by kernel_rfl) rfl (noWay_body (P := Try.prog) (fn := Try.f17) (R := ErrPost w 14) (fun _ _ h => nomatch h.1) (fun _ h => nomatch h.1)) ?_
  simp only [wpCuts, List.take_succ_cons, List.take_zero, List.drop_succ_cons, List.drop_zero, List.take_nil]
  go_wp2
  refine ⟨trivial, ?_⟩
  go_wp2_with (go_at_call 10; refine (HC.out _).mono ?_; rintro e w' ⟨rfl, rfl⟩)
  refine ⟨trivial, ?_⟩
  go_wp2_with (at_make; refine wpList_make_own _ rfl _ _ 31 rfl (w.heap.size + 1) 3 i0 (.int .i64 0) 1 Try.underlying31 hi hz0 hz1 _ _ _ N rfl rfl rfl (by rw [hz2]; omega) (by unfold maxLen; omega) (by first | (simp; done) | (simp; omega)) ?_; intro w1 hown hgrow; have hb3 : Below w.heap.size w w1 := Below.grown hb2.drew hgrow (by first | (simp; done) | (simp; omega)) (by intro k hk; cases hk); have p1 := hgrow.cell (a := ⟨w.heap.size, 0, none⟩) q1 (by simp); have p2 := hgrow.cell (a := ⟨w.heap.size, 1, none⟩) q2 (by simp); have p3 := hgrow.size; simp at p3; clear hgrow)
  clear q1 q2 q3 hb2 q4
  go_loopw [52, 8] (fun i o wr => ∃ k : Nat, k ≤ N ∧ i = .int .i64 k ∧ ∃ g, o = .slice (some ⟨g, 0, none⟩) k N ∧ wr.ownsRow (w.heap.size + 1) 3 1 (.slice (some ⟨g, 0, none⟩) k N) k (ints k (widthAt n h v s r)) ∧ Below w.heap.size w wr ∧ wr.cell? ⟨w.heap.size, 0, none⟩ = some (.int .i64 s) ∧ wr.cell? ⟨w.heap.size, 1, none⟩ = some (.int .i64 r) ∧ w.heap.size + 1 ≤ wr.heap.size ∧ Hid (∀ j, j < k → widthAt n h v s r j ≠ 0)) (fun i _ _ => N - (intOf i).toNat)
  case atStart => exact ⟨0, Nat.zero_le _, rfl, _, rfl, by simpa [ints] using hown, hb3, p1, p2, by omega, Lib.hid (fun j hj => absurd hj (Nat.not_lt_zero _))⟩
  case round =>
    obtain ⟨k, hk, rfl, g, rfl, hrow, hB, c1, c2, hsz, HZ⟩ := hrel
    by_cases hkN : k < N
    · obtain ⟨x1, x2, x3, x4⟩ := aD_bd n h v (2 * r) (100 * (2 * (k : Int) + 1)) HO.out (by omega) (by omega) (by omega)
      obtain ⟨x5, x6⟩ := num_bd _ _ s x1 x2 x3 x4 s1 s2
      have hown0 : g ≠ w.heap.size := by
        have := (hrow.lt g rfl).1
        omega
      by_cases hz : widthAt n h v s r k = 0
      · have t1 : (widthAt n h v s r k == 0) = true := by simpa using hz
        have HZ := Lib.hid hz
        clear hz
        go_wp2_with (first
          | (go_at_call 24; refine (HA.out _ hB k (by omega)).mono ?_; rintro e w2 ⟨rfl, hb4⟩; have d1 := (hb4.cell (p := ⟨w.heap.size, 0, none⟩) (by first | (simp; done) | (simp; omega))).trans c1; have d2 := (hb4.cell (p := ⟨w.heap.size, 1, none⟩) (by first | (simp; done) | (simp; omega))).trans c2; have d3 := hb4.size; have hB2 := hB.trans (hb4.mono hB.size); have hrow2 : w2.ownsRow (w.heap.size + 1) 3 1 (.slice (some ⟨g, 0, none⟩) k N) k (ints k (widthAt n h v s r)) := hrow.kept (row := none) ⟨hb4.os, hb4.tape, hb4.output, hb4.size, fun j hj _ => hb4.block j hj⟩ (by simp [Value.ownBlock]); clear hb4)
          | (go_at_call 20; refine (round_any _ _ _ x5 (by omega) (by omega) (by omega)).mono ?_; rintro e w' ⟨rfl, rfl⟩)
          | (at_builtin; ((refine wpList_append_fits _ rfl _ _ 31 rfl (w.heap.size + 1) 3 i0 1 Try.underlying31 hi hz1 g k N _ rfl (hrow2.alloc _) ⟨w2.heap.size, 0, none⟩ 1 1 [.int .i64 (widthAt n h v s r k)] rfl rfl (cell_one_new _ _ _) (by simp [Value.oneCell']) (by omega) ?_; intro w3 hown3 hgrow3; have e1 := hgrow3.cell (a := ⟨w.heap.size, 0, none⟩) (v := .int .i64 s) ((World.cell?_of_block (Below.heap_alloc w2 _ w.heap.size (by omega))).trans d1) (fun hh => hown0 (Option.some.inj hh).symm); have e2 := hgrow3.cell (a := ⟨w.heap.size, 1, none⟩) (v := .int .i64 r) ((World.cell?_of_block (Below.heap_alloc w2 _ w.heap.size (by omega))).trans d2) (fun hh => hown0 (Option.some.inj hh).symm); have e3 : w2.heap.size + 1 ≤ w3.heap.size := Nat.le_trans (Nat.le_of_eq (World.size_alloc _ _).symm) hgrow3.size; have hB3 : Below w.heap.size w w3 := Below.grown (hB2.alloc (by omega) _) hgrow3 (by first | (simp; done) | (simp; omega)) (fun j hj => by cases hj; have := (hrow.lt g rfl).1; omega); rw [← ints_snoc] at hown3; have e4 := hown3.cells rfl k _ (ints_get _ (Nat.lt_succ_self k)); rw [add_zero_addr] at e4; clear hgrow3))))
        go_ret2
        exact ⟨rfl, hB3⟩
      · have t1 : (widthAt n h v s r k == 0) = false := by simpa using hz
        have HZ2 : Hid (∀ j, j < k + 1 → widthAt n h v s r j ≠ 0) := Lib.hid (fun j hj => by
          by_cases hjk : j = k
          · subst hjk; exact hz
          · exact HZ.out j (by omega))
        clear hz
        go_wp2_with (first
          | (go_at_call 24; refine (HA.out _ hB k (by omega)).mono ?_; rintro e w2 ⟨rfl, hb4⟩; have d1 := (hb4.cell (p := ⟨w.heap.size, 0, none⟩) (by first | (simp; done) | (simp; omega))).trans c1; have d2 := (hb4.cell (p := ⟨w.heap.size, 1, none⟩) (by first | (simp; done) | (simp; omega))).trans c2; have d3 := hb4.size; have hB2 := hB.trans (hb4.mono hB.size); have hrow2 : w2.ownsRow (w.heap.size + 1) 3 1 (.slice (some ⟨g, 0, none⟩) k N) k (ints k (widthAt n h v s r)) := hrow.kept (row := none) ⟨hb4.os, hb4.tape, hb4.output, hb4.size, fun j hj _ => hb4.block j hj⟩ (by simp [Value.ownBlock]); clear hb4)
          | (go_at_call 20; refine (round_any _ _ _ x5 (by omega) (by omega) (by omega)).mono ?_; rintro e w' ⟨rfl, rfl⟩)
          | (at_builtin; ((refine wpList_append_fits _ rfl _ _ 31 rfl (w.heap.size + 1) 3 i0 1 Try.underlying31 hi hz1 g k N _ rfl (hrow2.alloc _) ⟨w2.heap.size, 0, none⟩ 1 1 [.int .i64 (widthAt n h v s r k)] rfl rfl (cell_one_new _ _ _) (by simp [Value.oneCell']) (by omega) ?_; intro w3 hown3 hgrow3; have e1 := hgrow3.cell (a := ⟨w.heap.size, 0, none⟩) (v := .int .i64 s) ((World.cell?_of_block (Below.heap_alloc w2 _ w.heap.size (by omega))).trans d1) (fun hh => hown0 (Option.some.inj hh).symm); have e2 := hgrow3.cell (a := ⟨w.heap.size, 1, none⟩) (v := .int .i64 r) ((World.cell?_of_block (Below.heap_alloc w2 _ w.heap.size (by omega))).trans d2) (fun hh => hown0 (Option.some.inj hh).symm); have e3 : w2.heap.size + 1 ≤ w3.heap.size := Nat.le_trans (Nat.le_of_eq (World.size_alloc _ _).symm) hgrow3.size; have hB3 : Below w.heap.size w w3 := Below.grown (hB2.alloc (by omega) _) hgrow3 (by first | (simp; done) | (simp; omega)) (fun j hj => by cases hj; have := (hrow.lt g rfl).1; omega); rw [← ints_snoc] at hown3; have e4 := hown3.cells rfl k _ (ints_get _ (Nat.lt_succ_self k)); rw [add_zero_addr] at e4; clear hgrow3))))
        go_roundw
        case rel => exact ⟨k + 1, by omega, by go_num, g, by go_num, hown3, hB3, e1, e2, by omega, HZ2⟩
        case measure => simp [intOf]; omega
    · obtain rfl : N = k := by omega
      by_cases hN0 : N = 0
      · subst hN0
        go_wp2
        go_ret2
        exact ⟨rfl, hB⟩
      · obtain ⟨j, hj, hz⟩ := HEX.out.resolve_left hN0
        exact absurd hz (HZ.out j hj)

end Go.Proofs.Ytknkpmckgaloaaa
