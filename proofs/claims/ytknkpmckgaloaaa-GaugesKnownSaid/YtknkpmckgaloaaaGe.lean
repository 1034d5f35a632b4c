/-
  The contract of gauges.valid.
-/
import Derived.Test.YtknkpmckgaloaaaGd
import Derived.Deep.RegionHeld3
import Derived.Test.YtknkpmckgaloaaaCut
namespace Go.Proofs.Ytknkpmckgaloaaa
open Go.RowKit

/-- Points of any kind: is the outline valid, up to k points? -/
def ptOk (h v : Nat → Int) (k : Nat) : Prop := 0 ≤ v k ∧ 0 ≤ h k ∧ v k ≤ 20000 ∧ h k ≤ 20000 ∧ (0 < k → h (k - 1) ≤ h k)
def validP (n : Nat) (h v : Nat → Int) : Prop := 2 ≤ n ∧ h 0 = 0 ∧ ∀ k, k < n → ptOk h v k

theorem validP_ok {n : Nat} {h v : Nat → Int} (hv : validP n h v) : PtsOk n h v := by
  obtain ⟨h1, h2, h3⟩ := hv
  refine ⟨h1, h2, fun k hk => ?_, fun k hk => ?_⟩
  · obtain ⟨a, b, c, d, _⟩ := h3 k hk
    exact ⟨b, d, a, c⟩
  · obtain ⟨_, _, _, _, e⟩ := h3 (k + 1) hk
    exact e (by omega)

def ValidPost (w : World) (b : Bool) (e : Ending) (w' : World) : Prop := e = .returned (.bool b) ∧ Below w.heap.size w w'

set_option maxHeartbeats 2000000 in
theorem valid_yes (n cap : Nat) (h v : Nat → Int) (bk off : Nat) (w : World) (hn : n ≤ 100000) (hlt : bk < w.heap.size)
    (hp : PtsAt w bk off n h v) (hok : validP n h v) :
    Calls Try.prog 23 #[.slice (some ⟨bk, off, none⟩) n cap] w (ValidPost w true) := by
  obtain ⟨hn2, h0, hbd⟩ := hok
  obtain ⟨c1, c2⟩ := hp 0 (by omega)
  rw [Nat.zero_mul, Nat.add_zero] at c1
  rw [h0] at c1
  have HB := Lib.hid hbd
  have HP := Lib.hid hp
  clear hbd hp c2 h0
  go_enter Try.func23, Try.ntmps23
  go_wp2
  clear c1
  go_loopw [17] (fun i wr => ∃ k : Nat, k ≤ n ∧ i = .int .i64 k ∧ Below w.heap.size w wr) (fun i _ => n - (intOf i).toNat)
  case atStart => exact ⟨0, Nat.zero_le _, rfl, Below.refl _ _⟩
  case round =>
    obtain ⟨k, hk, rfl, hB⟩ := hrel
    by_cases hkn : k < n
    · obtain ⟨d1, d2, d3, d4, d5⟩ := HB.out k hkn
      have e1 := (hB.cell (p := ⟨bk, off + k * 2, none⟩) hlt).trans (HP.out k hkn).1
      have e2 := (hB.cell (p := ⟨bk, off + k * 2 + 1, none⟩) hlt).trans (HP.out k hkn).2
      have hs := hB.size
      have g1 : decide (v k < 0) = false := by simpa using d1
      have g2 : decide (h k < 0) = false := by simpa using d2
      have g3 : decide (20000 < gr (v k) (h k)) = false := by unfold gr; simp; omega
      have hl1 : bk < wr.heap.size := by omega
      have hl2 : bk < wr.heap.size + 1 := by omega
      have hl3 : bk < wr.heap.size + 1 + 1 := by omega
      by_cases h0 : 0 < k
      · have d6 := d5 h0
        have e3 := (hB.cell (p := ⟨bk, off + (k - 1) * 2, none⟩) hlt).trans (HP.out (k - 1) (by omega)).1
        have g4 : decide (0 < (k : Int)) = true := by simpa using h0
        have i1 : IntKind.i64.wrap ((k : Int) - 1) = (k : Int) - 1 := IntWalk.i64_in _ (by omega)
        have i2 : 1 ≤ (k : Int) := by omega
        have i3 : 0 ≤ (k : Int) - 1 := by omega
        have i4 : (k : Int) - 1 < n := by omega
        have i5 : ((k : Int) - 1).toNat = k - 1 := by omega
        have i6 : 1 ≤ k := by omega
        have g5 : decide (h k < h (k - 1)) = false := by simpa using d6
        go_wp2
        go_region_held3 (fun w' => w'.cell? ⟨wr.heap.size, 0, none⟩ = some (.int .i64 (h k)) ∧ w'.cell? ⟨wr.heap.size, 1, none⟩ = some (.int .i64 (v k)) ∧ w'.cell? ⟨bk, off + (k - 1) * 2, none⟩ = some (.int .i64 (h (k - 1)))) (go_keep)
          (first | (go_at_call 22; go_call (greatest_two (v k) (h k) _ _) as e w' ⟨rfl, rfl⟩))
        go_wp2
        go_roundw
        case rel => exact ⟨k + 1, by omega, by go_num, by go_grown⟩
        case measure => simp [intOf]; omega
      · have g4 : decide (0 < (k : Int)) = false := by simpa using h0
        go_wp2
        refine wp_region_cuts [(true, 13), (false, 2), (true, 17)] (by kernel_rfl) (by kernel_rfl) (by kernel_rfl) rfl (noWay_body (P := Try.prog) (fn := Try.f23) (R := ValidPost w true) (fun _ _ h => nomatch h.1) (fun _ h => nomatch h.1)) ?_
        simp only [wpCuts, List.take_succ_cons, List.take_zero, List.drop_succ_cons, List.drop_zero, List.take_nil]
        go_wp2
        refine ⟨trivial, ?_⟩
        go_wp2_with (go_at_call 22; go_call (greatest_two (v k) (h k) _ _) as e w' ⟨rfl, rfl⟩)
        refine ⟨trivial, ?_⟩
        go_wp2
        go_roundw
        case rel => exact ⟨k + 1, by omega, by go_num, by go_grown⟩
        case measure => simp [intOf]; omega
    · go_wp2
      go_ret
      exact ⟨rfl, hB⟩

set_option maxHeartbeats 400000 in
theorem valid_few (n cap : Nat) (ao : Option Addr) (w : World) (hn : n < 2) :
    Calls Try.prog 23 #[.slice ao n cap] w (ValidPost w false) := by
  go_enter Try.func23, Try.ntmps23
  go_wp2
  go_ret
  exact ⟨rfl, Below.refl _ _⟩

set_option maxHeartbeats 400000 in
theorem valid_first (n cap : Nat) (h v : Nat → Int) (bk off : Nat) (w : World) (hn : n ≤ 100000) (hn2 : 2 ≤ n)
    (hp : PtsAt w bk off n h v) (h0 : h 0 ≠ 0) :
    Calls Try.prog 23 #[.slice (some ⟨bk, off, none⟩) n cap] w (ValidPost w false) := by
  obtain ⟨c1, c2⟩ := hp 0 (by omega)
  rw [Nat.zero_mul, Nat.add_zero] at c1
  have g1 : (h 0 != 0) = true := by simpa using h0
  clear hp h0 c2
  go_enter Try.func23, Try.ntmps23
  go_wp2
  go_ret
  exact ⟨rfl, Below.refl _ _⟩

theorem not_ptOk {h v : Nat → Int} {k : Nat} (hn : ¬ ptOk h v k) : v k < 0 ∨ (0 ≤ v k ∧ h k < 0) ∨ (0 ≤ v k ∧ 0 ≤ h k ∧ 20000 < gr (v k) (h k)) ∨ (0 ≤ v k ∧ 0 ≤ h k ∧ gr (v k) (h k) ≤ 20000 ∧ 0 < k ∧ h k < h (k - 1)) := by
  unfold ptOk at hn
  unfold gr
  by_cases h1 : 0 < k <;> by_cases h2 : h (k - 1) ≤ h k <;> simp [h1, h2] at hn ⊢ <;> omega

set_option maxHeartbeats 4000000 in
theorem valid_no (n cap : Nat) (h v : Nat → Int) (bk off : Nat) (w : World) (hn : n ≤ 100000) (hlt : bk < w.heap.size)
    (hp : PtsAt w bk off n h v) (hn2 : 2 ≤ n) (h0 : h 0 = 0) (hbad : ¬ ∀ k, k < n → ptOk h v k) :
    Calls Try.prog 23 #[.slice (some ⟨bk, off, none⟩) n cap] w (ValidPost w false) := by
  obtain ⟨c1, c2⟩ := hp 0 (by omega)
  rw [Nat.zero_mul, Nat.add_zero] at c1
  rw [h0] at c1
  have HB := Lib.hid hbad
  have HP := Lib.hid hp
  clear hbad hp c2 h0
  go_enter Try.func23, Try.ntmps23
  go_wp2
  clear c1
  go_loopw [17] (fun i wr => ∃ k : Nat, k ≤ n ∧ i = .int .i64 k ∧ Below w.heap.size w wr ∧ Hid (∀ j, j < k → ptOk h v j)) (fun i _ => n - (intOf i).toNat)
  case atStart => exact ⟨0, Nat.zero_le _, rfl, Below.refl _ _, Lib.hid (fun j hj => absurd hj (Nat.not_lt_zero _))⟩
  case round =>
    obtain ⟨k, hk, rfl, hB, HJ⟩ := hrel
    by_cases hkn : k < n
    · have e1 := (hB.cell (p := ⟨bk, off + k * 2, none⟩) hlt).trans (HP.out k hkn).1
      have e2 := (hB.cell (p := ⟨bk, off + k * 2 + 1, none⟩) hlt).trans (HP.out k hkn).2
      have hs := hB.size
      have hl1 : bk < wr.heap.size := by omega
      have hl2 : bk < wr.heap.size + 1 := by omega
      have hl3 : bk < wr.heap.size + 1 + 1 := by omega
      by_cases hok : ptOk h v k
      · have HJ2 : Hid (∀ j, j < k + 1 → ptOk h v j) := Lib.hid (fun j hj => by
          by_cases hjk : j = k
          · subst hjk; exact hok
          · exact HJ.out j (by omega))
        obtain ⟨d1, d2, d3, d4, d5⟩ := hok
        have g1 : decide (v k < 0) = false := by simpa using d1
        have g2 : decide (h k < 0) = false := by simpa using d2
        have g3 : decide (20000 < gr (v k) (h k)) = false := by unfold gr; simp; omega
        have D5 := Lib.hid d5
        clear d5
        by_cases h0 : 0 < k
        · have d6 := D5.out h0
          have e3 := (hB.cell (p := ⟨bk, off + (k - 1) * 2, none⟩) hlt).trans (HP.out (k - 1) (by omega)).1
          have g4 : decide (0 < (k : Int)) = true := by simpa using h0
          have g5 : decide (h k < h (k - 1)) = false := by simpa using d6
          go_wp2
          refine wp_region_cuts [(true, 13), (false, 2), (true, 17)] (by kernel_rfl) (by kernel_rfl) (by kernel_rfl) rfl (noWay_body (P := Try.prog) (fn := Try.f23) (R := ValidPost w false) (fun _ _ h => nomatch h.1) (fun _ h => nomatch h.1)) ?_
          simp only [wpCuts, List.take_succ_cons, List.take_zero, List.drop_succ_cons, List.drop_zero, List.take_nil]
          go_wp2
          refine ⟨trivial, ?_⟩
          go_wp2_with (go_at_call 22; go_call (greatest_two (v k) (h k) _ _) as e w' ⟨rfl, rfl⟩)
          refine ⟨trivial, ?_⟩
          go_wp2
          go_roundw
          case rel => exact ⟨k + 1, by omega, by go_num, by go_grown, HJ2⟩
          case measure => simp [intOf]; omega
        · have g4 : decide (0 < (k : Int)) = false := by simpa using h0
          go_wp2
          refine wp_region_cuts [(true, 13), (false, 2), (true, 17)] (by kernel_rfl) (by kernel_rfl) (by kernel_rfl) rfl (noWay_body (P := Try.prog) (fn := Try.f23) (R := ValidPost w false) (fun _ _ h => nomatch h.1) (fun _ h => nomatch h.1)) ?_
          simp only [wpCuts, List.take_succ_cons, List.take_zero, List.drop_succ_cons, List.drop_zero, List.take_nil]
          go_wp2
          refine ⟨trivial, ?_⟩
          go_wp2_with (go_at_call 22; go_call (greatest_two (v k) (h k) _ _) as e w' ⟨rfl, rfl⟩)
          refine ⟨trivial, ?_⟩
          go_wp2
          go_roundw
          case rel => exact ⟨k + 1, by omega, by go_num, by go_grown, HJ2⟩
          case measure => simp [intOf]; omega
      · rcases not_ptOk hok with q | ⟨q1, q⟩ | ⟨q1, q2, q⟩ | ⟨q1, q2, q3, q4, q⟩
        · have g1 : decide (v k < 0) = true := by simpa using q
          clear hok HJ
          go_wp2
          refine wp_region_cuts [(true, 13), (false, 2), (true, 17)] (by kernel_rfl) (by kernel_rfl) (by kernel_rfl) rfl (noWay_body (P := Try.prog) (fn := Try.f23) (R := ValidPost w false) (fun _ _ h => nomatch h.1) (fun _ h => nomatch h.1)) ?_
          simp only [wpCuts, List.take_succ_cons, List.take_zero, List.drop_succ_cons, List.drop_zero, List.take_nil]
          go_wp2
          refine ⟨trivial, ?_⟩
          go_wp2_with (go_at_call 22; go_call (greatest_two (v k) (h k) _ _) as e w' ⟨rfl, rfl⟩)
          refine ⟨trivial, ?_⟩
          go_wp2
          go_ret
          exact ⟨rfl, by go_grown⟩
        · have g1 : decide (v k < 0) = false := by simpa using q1
          have g2 : decide (h k < 0) = true := by simpa using q
          clear hok HJ
          go_wp2
          refine wp_region_cuts [(true, 13), (false, 2), (true, 17)] (by kernel_rfl) (by kernel_rfl) (by kernel_rfl) rfl (noWay_body (P := Try.prog) (fn := Try.f23) (R := ValidPost w false) (fun _ _ h => nomatch h.1) (fun _ h => nomatch h.1)) ?_
          simp only [wpCuts, List.take_succ_cons, List.take_zero, List.drop_succ_cons, List.drop_zero, List.take_nil]
          go_wp2
          refine ⟨trivial, ?_⟩
          go_wp2_with (go_at_call 22; go_call (greatest_two (v k) (h k) _ _) as e w' ⟨rfl, rfl⟩)
          refine ⟨trivial, ?_⟩
          go_wp2
          go_ret
          exact ⟨rfl, by go_grown⟩
        · have g1 : decide (v k < 0) = false := by simpa using q1
          have g2 : decide (h k < 0) = false := by simpa using q2
          have g3 : decide (20000 < gr (v k) (h k)) = true := by simpa using q
          clear hok HJ
          go_wp2
          refine wp_region_cuts [(true, 13), (false, 2), (true, 17)] (by kernel_rfl) (by kernel_rfl) (by kernel_rfl) rfl (noWay_body (P := Try.prog) (fn := Try.f23) (R := ValidPost w false) (fun _ _ h => nomatch h.1) (fun _ h => nomatch h.1)) ?_
          simp only [wpCuts, List.take_succ_cons, List.take_zero, List.drop_succ_cons, List.drop_zero, List.take_nil]
          go_wp2
          refine ⟨trivial, ?_⟩
          go_wp2_with (go_at_call 22; go_call (greatest_two (v k) (h k) _ _) as e w' ⟨rfl, rfl⟩)
          refine ⟨trivial, ?_⟩
          go_wp2
          go_ret
          exact ⟨rfl, by go_grown⟩
        · have g1 : decide (v k < 0) = false := by simpa using q1
          have g2 : decide (h k < 0) = false := by simpa using q2
          have g3 : decide (20000 < gr (v k) (h k)) = false := by simpa using q3
          have g4 : decide (0 < (k : Int)) = true := by simpa using q4
          have g5 : decide (h k < h (k - 1)) = true := by simpa using q
          have e3 := (hB.cell (p := ⟨bk, off + (k - 1) * 2, none⟩) hlt).trans (HP.out (k - 1) (by omega)).1
          clear hok HJ
          go_wp2
          refine wp_region_cuts [(true, 13), (false, 2), (true, 17)] (by kernel_rfl) (by kernel_rfl) (by kernel_rfl) rfl (noWay_body (P := Try.prog) (fn := Try.f23) (R := ValidPost w false) (fun _ _ h => nomatch h.1) (fun _ h => nomatch h.1)) ?_
          simp only [wpCuts, List.take_succ_cons, List.take_zero, List.drop_succ_cons, List.drop_zero, List.take_nil]
          go_wp2
          refine ⟨trivial, ?_⟩
          go_wp2_with (go_at_call 22; go_call (greatest_two (v k) (h k) _ _) as e w' ⟨rfl, rfl⟩)
          refine ⟨trivial, ?_⟩
          go_wp2
          go_ret
          exact ⟨rfl, by go_grown⟩
    · exact absurd (fun j hj => HJ.out j (by omega)) HB.out

end Go.Proofs.Ytknkpmckgaloaaa
