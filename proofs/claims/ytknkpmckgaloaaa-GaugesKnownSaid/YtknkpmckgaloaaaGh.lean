/-
  Even's and Spread's errors; the examples of the chapter (lives).
-/
import Derived.Test.YtknkpmckgaloaaaGf
import Derived.Test.YtknkpmckgaloaaaGg
namespace Go.Proofs.Ytknkpmckgaloaaa
open Go.RowKit

theorem nat_eq_of_int {p : Int} (h : 1 ≤ p) : ∃ n : Nat, p = n ∧ 1 ≤ n := ⟨p.toNat, by omega, by omega⟩

set_option maxHeartbeats 400000 in
theorem spread_no (t p : Int) (w : World) (h : ¬ (1 ≤ p ∧ p ≤ 400 ∧ 0 ≤ t ∧ t ≤ 80000)) :
    Calls Try.prog 15 #[.int .i64 t, .int .i64 p] w fun e w' => e = .returned (.tuple #[.slice none 0 0, .int .i64 1]) ∧ w = w' := by
  have hh : p < 1 ∨ (1 ≤ p ∧ 400 < p) ∨ (1 ≤ p ∧ p ≤ 400 ∧ t < 0) ∨ (1 ≤ p ∧ p ≤ 400 ∧ 0 ≤ t ∧ 80000 < t) := by omega
  clear h
  rcases hh with q | ⟨q1, q⟩ | ⟨q1, q2, q⟩ | ⟨q1, q2, q3, q⟩
  all_goals
    go_enter Try.func15, Try.ntmps15
    go_wp2
    go_ret2
    exact ⟨rfl, rfl⟩

set_option maxHeartbeats 400000 in
theorem even_step (s : Int) (n cap : Nat) (ao : Option Addr) (w : World) (hs : s < 0) :
    Calls Try.prog 19 #[.slice ao n cap, .int .i64 s] w fun e w' => e = .returned (.tuple #[.slice none 0 0, .int .i64 1]) ∧ w = w' := by
  go_enter Try.func19, Try.ntmps19
  go_wp2
  go_ret2
  exact ⟨rfl, rfl⟩

set_option maxHeartbeats 1000000 in
theorem even_bad (l : List Int) (s : Int) (b off cap : Nat) (w : World) (hl : l.length ≤ 1000000) (hs : 0 ≤ s) (hc : ∀ k, k < l.length → w.cell? ⟨b, off + k, none⟩ = some (.int .i64 (lget l k))) (hbad : ¬ ∀ k, k < l.length → 0 ≤ lget l k ∧ lget l k ≤ 80000) :
    Calls Try.prog 19 #[.slice (some ⟨b, off, none⟩) l.length cap, .int .i64 s] w fun e w' => e = .returned (.tuple #[.slice none 0 0, .int .i64 1]) ∧ w = w' := by
  have HC := Lib.hid hc
  have HB := Lib.hid hbad
  clear hc hbad
  go_enter Try.func19, Try.ntmps19
  go_wp2
  go_loop [16] (fun i => ∃ k : Nat, k ≤ l.length ∧ i = .int .i64 k ∧ Hid (∀ j, j < k → 0 ≤ lget l j ∧ lget l j ≤ 80000)) (fun i => l.length - (intOf i).toNat)
  case atStart => exact ⟨0, Nat.zero_le _, rfl, Lib.hid (fun j hj => absurd hj (Nat.not_lt_zero _))⟩
  case round =>
    obtain ⟨k, hk, rfl, HJ⟩ := hrel
    by_cases hlt : k < l.length
    · have h1 := HC.out k hlt
      by_cases hg : 0 ≤ lget l k ∧ lget l k ≤ 80000
      · have HJ2 : Hid (∀ j, j < k + 1 → 0 ≤ lget l j ∧ lget l j ≤ 80000) := Lib.hid (fun j hj => by
          by_cases hjk : j = k
          · subst hjk; exact hg
          · exact HJ.out j (by omega))
        obtain ⟨h2, h3⟩ := hg
        go_wp2
        go_round
        case rel => exact ⟨k + 1, by omega, by go_num, HJ2⟩
        case measure => simp [intOf]; omega
      · have hg2 : lget l k < 0 ∨ (0 ≤ lget l k ∧ 80000 < lget l k) := by omega
        clear hg
        rcases hg2 with q | ⟨q1, q⟩
        all_goals
          go_wp2
          go_ret2
          exact ⟨rfl, rfl⟩
    · exact absurd (fun j hj => HJ.out j (by omega)) HB.out

set_option maxHeartbeats 1000000 in
theorem even_limit (l : List Int) (s : Int) (b off cap : Nat) (w : World) (hl : l.length ≤ 1000000) (hl2 : 400 < l.length) (hs : 0 ≤ s) (hc : ∀ k, k < l.length → w.cell? ⟨b, off + k, none⟩ = some (.int .i64 (lget l k))) (hv : ∀ k, k < l.length → 0 ≤ lget l k ∧ lget l k ≤ 80000) :
    Calls Try.prog 19 #[.slice (some ⟨b, off, none⟩) l.length cap, .int .i64 s] w fun e w' => e = .returned (.tuple #[.slice none 0 0, .int .i64 3]) ∧ w = w' := by
  have HC := Lib.hid hc
  have HV := Lib.hid hv
  clear hc hv
  go_enter Try.func19, Try.ntmps19
  go_wp2
  go_loop [16] (fun i => ∃ k : Nat, k ≤ l.length ∧ i = .int .i64 k) (fun i => l.length - (intOf i).toNat)
  case atStart => exact ⟨0, Nat.zero_le _, rfl⟩
  case round =>
    obtain ⟨k, hk, rfl⟩ := hrel
    by_cases hlt : k < l.length
    · have h1 := HC.out k hlt
      obtain ⟨h2, h3⟩ := HV.out k hlt
      go_wp2
      go_round
      case rel => exact ⟨k + 1, by omega, by go_num⟩
      case measure => simp [intOf]; omega
    · go_wp2
      go_ret2
      exact ⟨rfl, rfl⟩

/-! The examples. -/
theorem IntsAt.below {w w' : World} {b B : Nat} {l : List Int} (h : IntsAt w b l) (hB : Below B w w') (hb : b < B) : IntsAt w' b l := fun i hi => (hB.cell (p := ⟨b, i, none⟩) hb).trans (h i hi)
theorem ints_at {w : World} {base g n : Nat} {c : Nat} {l : List Int} {cs : List Value} (h : w.ownsRow base 3 1 (.slice (some ⟨g, 0, none⟩) n c) n cs) (hcs : cs = vals l) : IntsAt w g l := fun i hi => by
  have := h.cells rfl i (.int .i64 (l.getD i 0)) (by rw [hcs]; simp [vals, hi])
  rwa [add_zero_addr] at this
theorem ints_at_row {w : World} {g : Nat} {l : List Int} {cs : List Value} (h : Row w g 3 cs) (hcs : cs = vals l) : IntsAt w g l := fun i hi => by
  refine h.cell ?_
  rw [hcs]
  simp [vals, hi]

def exH : Nat → Int := fun k => [0, 10, 20].getD k 0
def exV : Nat → Int := fun k => [100, 100, 80].getD k 0
def exW : List Int := [30, 30, 30, 30, 29, 28, 26, 25]

theorem ex_valid : validP 3 exH exV := by
  unfold validP ptOk exH exV
  decide
theorem ex_rows : rowsOf 40 (exH (3 - 1)) = ((8 : Nat) : Int) := by decide
theorem ex_ints : ints 8 (widthAt 3 exH exV 30 40) = vals exW := by
  have h : (List.range 8).map (widthAt 3 exH exV 30 40) = exW := by decide
  rw [← h]
  simp [ints, vals]
theorem ex_nz : ∀ k, k < 8 → widthAt 3 exH exV 30 40 k ≠ 0 := by decide
theorem ex_even : ints 3 (evenAt (lget [5, 1, 9]) 2 3) = vals [3, 1, 3] := by
  have h : (List.range 3).map (evenAt (lget [5, 1, 9]) 2 3) = [3, 1, 3] := by decide
  rw [← h]
  simp [ints, vals]
theorem ex_spread : vals (diffs 0 (parts 7 3 3)) = vals [2, 2, 3] := by
  have h : diffs 0 (parts 7 3 3) = [2, 2, 3] := by kernel_rfl
  rw [h]

def LivesPost (w : World) (e : Ending) (w' : World) : Prop := e = .returned (.bool true) ∧ Below w.heap.size w w'

def EvenAt (w : World) (e : Ending) (w' : World) : Prop := e = .returned (.tuple #[.slice (some ⟨w.heap.size, 0, none⟩) 3 3, .int .i64 0]) ∧ IntsAt w' w.heap.size [3, 1, 3] ∧ w.heap.size < w'.heap.size ∧ Below w.heap.size w w'
theorem even_ex (w : World) (b : Nat) (hb : b < w.heap.size) (h0 : w.cell? ⟨b, 0, none⟩ = some (.int .i64 5)) (h1 : w.cell? ⟨b, 1, none⟩ = some (.int .i64 1)) (h2 : w.cell? ⟨b, 2, none⟩ = some (.int .i64 9)) :
    Calls Try.prog 19 #[.slice (some ⟨b, 0, none⟩) 3 3, .int .i64 2] w (EvenAt w) := by
  refine (even_any [5, 1, 9] 2 (some ⟨b, 0, none⟩) 3 w (by decide) (by decide) (by unfold lget; decide) (.inr ⟨b, 0, rfl, hb, fun k hk => ?_⟩)).mono ?_
  · match k, hk with
    | 0, _ => exact h0
    | 1, _ => exact h1
    | 2, _ => exact h2
  · rintro e w' ⟨rfl, hr, hB⟩
    exact ⟨rfl, ints_at_row hr ex_even, hr.lt, hB⟩

def WidthsAt (w : World) (e : Ending) (w' : World) : Prop := ∃ g, e = .returned (.tuple #[.slice (some ⟨g, 0, none⟩) 8 8, .int .i64 0]) ∧ IntsAt w' g exW ∧ g < w'.heap.size ∧ Below w.heap.size w w'
theorem widths_ex (w : World) (b : Nat) (hb : b < w.heap.size) (h0 : w.cell? ⟨b, 0, none⟩ = some (.int .i64 0)) (h1 : w.cell? ⟨b, 1, none⟩ = some (.int .i64 100)) (h2 : w.cell? ⟨b, 2, none⟩ = some (.int .i64 10)) (h3 : w.cell? ⟨b, 3, none⟩ = some (.int .i64 100)) (h4 : w.cell? ⟨b, 4, none⟩ = some (.int .i64 20)) (h5 : w.cell? ⟨b, 5, none⟩ = some (.int .i64 80)) :
    Calls Try.prog 17 #[.agg #[.int .i64 30, .int .i64 40], .slice (some ⟨b, 0, none⟩) 3 3] w (WidthsAt w) := by
  refine (widths_ok 3 3 exH exV 30 40 b 0 w (by decide) hb (fun k hk => ?_) ex_valid ⟨by decide, by decide, by decide, by decide⟩ 8 (by decide) ex_rows (by decide) ex_nz).mono ?_
  · match k, hk with
    | 0, _ => exact ⟨h0, h1⟩
    | 1, _ => exact ⟨h2, h3⟩
    | 2, _ => exact ⟨h4, h5⟩
  · rintro e w' ⟨g, rfl, ho, hB⟩
    exact ⟨g, rfl, ints_at ho ex_ints, (ho.lt g rfl).2, hB⟩

def SpreadAt (w : World) (e : Ending) (w' : World) : Prop := e = .returned (.tuple #[.slice (some ⟨w.heap.size, 0, none⟩) 3 3, .int .i64 0]) ∧ IntsAt w' w.heap.size [2, 2, 3] ∧ w.heap.size < w'.heap.size ∧ Below w.heap.size w w'
theorem spread_ex (w : World) : Calls Try.prog 15 #[.int .i64 7, .int .i64 3] w (SpreadAt w) := by
  refine (spread_yes 7 3 (by decide) (by decide) (by decide) (by decide) w).mono ?_
  rintro e w' ⟨rfl, ho, hB⟩
  exact ⟨rfl, ints_at ho ex_spread, (ho.lt _ rfl).2, hB⟩

theorem count_ex (a b c : Int) (h : countOk a b) (hc : rnd (a * b) 100 = c) (w : World) : Calls Try.prog 10 #[.int .i64 a, .int .i64 b] w fun e w' => e = .returned (two c 0) ∧ w = w' := by
  subst hc; exact count_yes a b w h
theorem length_ex (a b c : Int) (h : lengthOk a b) (hc : rnd (100 * b) a = c) (w : World) : Calls Try.prog 11 #[.int .i64 a, .int .i64 b] w fun e w' => e = .returned (two c 0) ∧ w = w' := by
  subst hc; exact length_yes a b w h
theorem measure_ex (a b c : Int) (h : measureOk a b) (hc : rnd (100 * a) b = c) (w : World) : Calls Try.prog 12 #[.int .i64 a, .int .i64 b] w fun e w' => e = .returned (two c 0) ∧ w = w' := by
  subst hc; exact measure_yes a b w h

def SameAt (w : World) (e : Ending) (w' : World) : Prop := e = .returned (.bool true) ∧ Below w.heap.size w w'
theorem same_new (l : List Int) (a : Nat) (w : World) (n : Nat) (hn : l.length = n) (hl : l.length ≤ 1000000) (ha : IntsAt w a l) (hlt : a < w.heap.size) :
    Calls Try.prog 18 #[.slice (some ⟨a, 0, none⟩) n n, .slice (some ⟨w.heap.size, 0, none⟩) n n] (w.alloc (.cells (vals l).toArray 3)) (SameAt w) := by
  subst hn
  refine (same_yes l a w.heap.size l.length _ hl (ha.below ((Below.refl _ w).alloc (Nat.le_refl _) _) hlt) (ints_at_row (Row.new w _ _) rfl)).mono ?_
  rintro e w' ⟨rfl, n, rfl⟩
  exact ⟨rfl, below_drewN ((Below.refl _ w).alloc (Nat.le_refl _) _) n⟩

set_option maxHeartbeats 2000000 in
theorem lives_any (w : World) : Calls Try.prog 14 #[] w (LivesPost w) := by
  have k1 := Lib.hid (count_ex 28 50 14 (by unfold countOk; decide) (by decide))
  have k2 := Lib.hid (count_ex 25 50 13 (by unfold countOk; decide) (by decide))
  have k3 := Lib.hid (length_ex 28 14 50 (by unfold lengthOk; decide) (by decide))
  have k4 := Lib.hid (length_ex 30 1 3 (by unfold lengthOk; decide) (by decide))
  have k5 := Lib.hid (measure_ex 30 120 25 (by unfold measureOk; decide) (by decide))
  go_enter Try.func14, Try.ntmps14
  go_wp2_with fail
  refine (k1.out _).mono ?_; rintro e w' ⟨rfl, rfl⟩
  go_wp2_with fail
  refine (k2.out _).mono ?_; rintro e w' ⟨rfl, rfl⟩
  go_wp2_with fail
  refine (k3.out _).mono ?_; rintro e w' ⟨rfl, rfl⟩
  go_wp2_with fail
  refine (k4.out _).mono ?_; rintro e w' ⟨rfl, rfl⟩
  go_wp2_with fail
  refine (k5.out _).mono ?_; rintro e w' ⟨rfl, rfl⟩
  go_wp2_with fail
  refine (spread_ex _).mono ?_; rintro e w1 ⟨rfl, hf, hf2, hB1⟩
  have HF := Lib.hid hf
  clear hf
  go_wp2_with fail
  refine (widths_ex _ _ (by simp) (by simp [go_sem]) (by simp [go_sem]) (by simp [go_sem]) (by simp [go_sem]) (by simp [go_sem]) (by simp [go_sem])).mono ?_; rintro e w2 ⟨g, rfl, hg, hg2, hB2⟩
  have hB2' : Below w1.heap.size w1 w2 := ((Below.refl _ w1).alloc (Nat.le_refl _) _).trans (hB2.mono (by simp))
  have HF2 := Lib.hid (HF.out.below hB2' hf2)
  have HG := Lib.hid hg
  clear hg hB2 HF
  go_wp2_with fail
  refine (even_ex _ _ (by simp) (by simp [go_sem]) (by simp [go_sem]) (by simp [go_sem])).mono ?_; rintro e w3 ⟨rfl, hh, hh2, hB3⟩
  have hs1 := hB1.size
  have hs2 := hB2'.size
  have hB3' : Below w2.heap.size w2 w3 := ((Below.refl _ w2).alloc (Nat.le_refl _) _).trans (hB3.mono (by simp))
  have HF3 := Lib.hid (HF2.out.below hB3' (by omega))
  have HG3 := Lib.hid (HG.out.below hB3' hg2)
  have HH := Lib.hid hh
  have hs3 := hB3'.size
  have hBw : Below w.heap.size w w3 := (hB1.trans (hB2'.mono hs1)).trans (hB3'.mono (by omega))
  clear hh hB3 HF2 HG hB1 hB2' hB3'
  simp at hh2
  go_wp2_with fail
  refine (same_new [2, 2, 3] _ w3 3 rfl (by decide) HF3.out (by omega)).mono ?_; rintro e w4 ⟨rfl, hB4⟩
  have HG4 := Lib.hid (HG3.out.below hB4 (by omega))
  have HH4 := Lib.hid (HH.out.below hB4 (by simp; omega))
  have hs4 := hB4.size
  have hBw4 : Below w.heap.size w w4 := hBw.trans (hB4.mono (by omega))
  clear hB4 hBw
  go_wp2_with fail
  refine (same_new exW _ w4 8 rfl (by decide) HG4.out (by omega)).mono ?_; rintro e w5 ⟨rfl, hB5⟩
  have HH5 := Lib.hid (HH4.out.below hB5 (by simp; omega))
  have hs5 := hB5.size
  have hBw5 : Below w.heap.size w w5 := hBw4.trans (hB5.mono (by omega))
  clear hB5 hBw4
  go_wp2_with fail
  refine (same_new [3, 1, 3] _ w5 3 rfl (by decide) (by simpa using HH5.out) (by omega)).mono ?_; rintro e w6 ⟨rfl, hB6⟩
  have hBw6 : Below w.heap.size w w6 := hBw5.trans (hB6.mono (by omega))
  clear hB6 hBw5
  go_wp2
  go_ret
  exact ⟨rfl, hBw6⟩

end Go.Proofs.Ytknkpmckgaloaaa
