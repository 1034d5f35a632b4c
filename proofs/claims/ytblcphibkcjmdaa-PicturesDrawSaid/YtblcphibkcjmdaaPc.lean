/-
  Contracts: slices.Repeat and ones; stitches.Loads; charts.loads.
-/
import Derived.Test.YtblcphibkcjmdaaPsh
import Derived.Maps.AppendAt
import Derived.Laws.CopyOwn
namespace Go.Proofs.Ytblcphibkcjmdaa
open Go.RowKit

/-- The first k of n cells are 1. -/
def oneTo (k : Nat) : Nat → Int := fun i => if i < k then 1 else 0
theorem oneTo_all (n : Nat) : ints n (oneTo n) = ints n fun _ => 1 := ints_congr fun i hi => by simp [oneTo, hi]
theorem oneTo_zero (n : Nat) : ints n (oneTo 0) = ints n fun _ => 0 := ints_congr fun i _ => by simp [oneTo]
theorem ones_splice (n k m : Nat) (h : k + m ≤ n) : splice (ints n (oneTo k)) k (List.replicate m (.int .i64 1)) = ints n (oneTo (k + m)) := by
  unfold splice
  apply List.ext_getElem?
  intro j
  simp only [List.getElem?_append, List.length_append, List.length_take, ints_len, List.length_replicate, List.getElem?_take, List.getElem?_drop, List.getElem?_replicate]
  by_cases h1 : j < k
  · rw [show min k n = k by omega, if_pos (by omega), if_pos h1, ints_get _ (by omega), ints_get _ (by omega)]
    simp [oneTo, h1, show j < k + m by omega]
  · rw [show min k n = k by omega, if_neg h1]
    by_cases h2 : j < k + m
    · rw [if_pos (by omega), if_pos (by omega), ints_get _ (by omega)]
      simp [oneTo, h2]
    · rw [if_neg (by omega)]
      by_cases h3 : j < n
      · rw [show k + m + (j - k - m) = j by omega, ints_get _ h3, ints_get _ h3]
        simp [oneTo, h1, h2]
      · rw [List.getElem?_eq_none (by rw [ints_len]; omega), List.getElem?_eq_none (by rw [ints_len]; omega)]

theorem int_info : (Try.prog.info? 3).map (fun i => (i.zero, i.size, i.bytes)) = some (some (.int .i64 0), 1, 8) := by kernel_rfl
theorem make_ints (n : Nat) (hn : n ≤ 100000) (w : World) : (Instr.makeSlice 70 (.int .i64 (n : Int)) (.int .i64 (n : Int))).run Try.prog w =
    .ok (.slice (some ⟨w.heap.size, 0, none⟩) n n) (w.alloc (.cells (ints n fun _ => 0).toArray 3)) := by
  obtain ⟨i0, hi, hz0, hz1, hz2⟩ := info_parts int_info
  have := run_make (P := Try.prog) w 70 3 i0 (.int .i64 0) Try.underlying70 hi hz0 .i64 .i64 n n (by omega) (by omega) (by rw [hz2]; omega) (by omega)
  rw [this, hz1]
  simp only [Int.toNat_natCast]
  exact congrArg (fun c => Result.ok _ (w.alloc (.cells c _))) (made_zero n)

def OnesPost (w : World) (n : Nat) (e : Ending) (w' : World) : Prop := ∃ g, e = .returned (.slice (some ⟨g, 0, none⟩) n n) ∧ Row w' g 3 (ints n fun _ => 1) ∧ w.heap.size ≤ g ∧ Below w.heap.size w w'

theorem noWay_ones {P : Program} {fn : Func} {w : World} {n : Nat} : NoWay (bodyPost P fn (OnesPost w n)) :=
  noWay_body (fun _ _ h => by obtain ⟨_, h, _⟩ := h; cases h) (fun _ h => by obtain ⟨_, h, _⟩ := h; cases h)

set_option maxRecDepth 20000 in
set_option maxHeartbeats 2000000 in
theorem repeat_ones (n b cap : Nat) (w : World) (h1 : 1 ≤ n) (hn : n ≤ 1000) (hc : w.cell? ⟨b, 0, none⟩ = some (.int .i64 1)) (hb : b < w.heap.size) :
    Calls Try.prog 42 #[.slice (some ⟨b, 0, none⟩) 1 cap, .int .i64 n] w (OnesPost w n) := by
  have HM := Lib.hid (bits_Mul 1 n (by omega) (by omega))
  have hmk := make_ints n (by omega)
  go_enter Try.func42, Try.ntmps42
  go_wp2_with fail
  refine (HM.out _).mono ?_; rintro e w' ⟨rfl, rfl⟩
  rw [Nat.one_mul]
  go_wp2_with (with_reducible refine wpList_copy_splice (o := ⟨some 33, _, _, _, _, _⟩) ?e0 (.tmp 31) (.tmp 32) 70 70 ?e5 3 Try.underlying70 ?e8 (some ⟨w.heap.size, 0, none⟩) (some ⟨b, 0, none⟩) n n 1 cap ?f5 ?f6 w.heap.size 0 (ints n fun _ => 0) 3 (heap_alloc_new w _) [.int .i64 1] ?g3 ?g4 ?g5 ?g6 w.heap.size w ((Below.refl _ w).alloc (Nat.le_refl _) _) (Nat.le_refl _) ?g11)
  case e0 => rfl
  case e5 => rfl
  case e8 => kernel_rfl
  case f5 => rfl
  case f6 => rfl
  case g3 => show 1 = min 1 n; omega
  case g4 =>
    intro j v hj
    match j, hj with
    | 0, hj =>
      simp at hj
      subst hj
      exact hc
  case g5 => rw [ints_len]; exact h1
  case g6 => simp [Value.oneCell']
  case g11 =>
    intro w1 hr hB
    have hr1 : Row w1 w.heap.size 3 (ints n (oneTo 1)) := by
      have h := ones_splice n 0 1 (by omega)
      rw [oneTo_zero] at h
      have h2 := hr.out
      rw [show [Value.int .i64 1] = List.replicate 1 (Value.int .i64 1) from rfl, h] at h2
      exact h2
    clear hr hmk
    go_wp2
    go_loopw [8] (fun i wr => ∃ k : Nat, 1 ≤ k ∧ k ≤ n ∧ i = .int .i64 k ∧ Row wr w.heap.size 3 (ints n (oneTo k)) ∧ Below w.heap.size w wr) (fun i _ => n - (intOf i).toNat)
    case atStart => exact ⟨1, by omega, h1, rfl, hr1, hB⟩
    case round =>
      obtain ⟨k, hk1, hk, rfl, hrow, hBr⟩ := hrel
      by_cases hkn : k < n
      · have hkc : ¬ n = k := by omega
        have hlen : (ints n (oneTo k)).length = n := ints_len _ _
        go_wp2
        refine wp_region_pieces [(true, [0, 1, 2, 3, 4, 5, 6]), (false, [7, 8, 9])] (by kernel_rfl) (by kernel_rfl) (by kernel_rfl) (noWay_ones (P := Try.prog) (fn := Try.f42) (w := w) (n := n)) ?_
        simp only [wpPieces, picks, List.drop_succ_cons, List.drop_zero, List.take_succ_cons, List.take_zero, List.cons_append, List.nil_append]
        go_wp2
        refine ⟨trivial, ?_⟩
        go_wp2_with (with_reducible refine wpList_copy_splice (o := ⟨some 45, _, _, _, _, _⟩) ?e0 (.tmp 41) (.tmp 44) 70 70 ?e5 3 Try.underlying70 ?e8 (some ⟨w.heap.size, k, none⟩) (some ⟨w.heap.size, 0, none⟩) (n - k) (n - k) k n ?f5 ?f6 w.heap.size k (ints n (oneTo k)) 3 ?g1 (List.replicate (min k (n - k)) (.int .i64 1)) ?g3 ?g4 ?g5 ?g6 w.heap.size w ?g9 (Nat.le_refl _) ?g11)
        case e0 => rfl
        case e5 => rfl
        case e8 => kernel_rfl
        case f5 => rfl
        case f6 => rfl
        case g1 => exact hrow
        case g3 => rw [List.length_replicate]
        case g4 =>
          intro _ j v hj
          rw [List.getElem?_replicate] at hj
          split at hj
          · rename_i hjk
            simp at hj
            subst hj
            have := hrow.cell (ints_get (oneTo k) (show j < n by omega))
            simpa [oneTo, show j < k by omega] using this
          · cases hj
        case g5 => rw [List.length_replicate, hlen]; omega
        case g6 => intro v hv; rw [List.eq_of_mem_replicate hv]; rfl
        case g9 => exact Below.drew hBr
        case g11 =>
          intro w2 hr hB2
          have hr3 : Row w2 w.heap.size 3 (ints n (oneTo (k + min k (n - k)))) := by
            have h2 := hr.out
            rw [ones_splice n k (min k (n - k)) (by omega)] at h2
            exact h2
          clear hr
          go_wp2
          go_roundw
          case rel => exact ⟨k + min k (n - k), by omega, by omega, by go_num, hr3, hB2⟩
          case measure => simp [intOf]; omega
      · obtain rfl : k = n := by omega
        have hr2 := hrow.to (oneTo_all _)
        clear hrow
        go_wp2
        go_ret
        exact ⟨w.heap.size, rfl, hr2, Nat.le_refl _, hBr⟩

set_option maxRecDepth 20000 in
theorem ones_any (n : Nat) (w : World) (h1 : 1 ≤ n) (hn : n ≤ 1000) : Calls Try.prog 33 #[.int .i64 n] w (OnesPost w n) := by
  go_enter Try.func33, Try.ntmps33
  go_wp2_with fail
  refine (repeat_ones n w.heap.size 1 _ h1 hn (by simp [go_sem]) (by simp)).mono ?_; rintro e w1 ⟨g, rfl, hr, hg, hB⟩
  have hg2 : w.heap.size ≤ g := by simp at hg; omega
  have hC : Below w.heap.size w w1 := ((Below.refl _ w).alloc (Nat.le_refl _) _).trans (hB.mono (by simp))
  have HR := Lib.hid hr
  clear hr hB hg
  go_wp2
  go_ret
  exact ⟨g, rfl, HR.out, hg2, hC⟩

/-- What Loads returns for a stitch that is knit or purl, on one slot of one loop. -/
def OneLoad (w : World) (e : Ending) (w' : World) : Prop := ∃ g, e = .returned (.tuple #[.slice (some ⟨g, 0, none⟩) 1 1, .int .i64 0]) ∧ g < w'.heap.size ∧ w'.cell? ⟨g, 0, none⟩ = some (.int .i64 1) ∧ Below w.heap.size w w'
set_option maxRecDepth 20000 in
set_option maxHeartbeats 1000000 in
theorem stLoads_simple (k y : Int) (b o cap : Nat) (w : World) (h : Simple k y) (hb : b < w.heap.size) (hc : w.cell? ⟨b, o, none⟩ = some (.int .i64 1)) :
    Calls Try.prog 43 #[st k y, .slice (some ⟨b, o, none⟩) 1 cap] w (OneLoad w) := by
  have HS := Lib.hid h
  have hmk : ∀ w, (Instr.makeSlice 70 (.int .i64 1) (.int .i64 1)).run Try.prog w = .ok (.slice (some ⟨w.heap.size, 0, none⟩) 1 1) (w.alloc (.cells #[.int .i64 0] 3)) := make_ints 1 (by omega)
  obtain ⟨k1, k2, y1, y2⟩ := h
  go_enter Try.func43, Try.ntmps43
  go_wp2_with fail
  refine (check_simple k y _ HS.out).mono ?_; rintro e w1 ⟨rfl, hB1⟩
  have hC1 : Below w.heap.size w w1 := ((Below.refl _ w).alloc (Nat.le_refl _) _).trans (hB1.mono (by simp))
  have hz1 : w.heap.size < w1.heap.size := by have := hB1.size; simp at this; omega
  have b1 : StAt w1 w.heap.size 0 k y := by
    have hst : StAt (w.alloc (.cells #[.int .u8 k, .int .u8 y, .int .i64 0, .int .i64 0, .bool false] 38)) w.heap.size 0 k y := by simp [StAt, go_sem]
    exact hst.of_heap (hB1.block w.heap.size (by simp))
  obtain ⟨d1, d2, d3, d4, d5⟩ := b1
  have c1 := (hC1.cell (p := ⟨b, o, none⟩) hb).trans hc
  clear hB1
  go_wp2_with fail
  refine (needs_simple k y _ HS.out).mono ?_; rintro e w2 ⟨rfl, hB2⟩
  have hC2 := hC1.trans (hB2.mono hC1.size)
  have e1 := (hB2.cell (p := ⟨w.heap.size, 0, none⟩) hz1).trans d1
  have e2 := (hB2.cell (p := ⟨w.heap.size, 0 + 1, none⟩) hz1).trans d2
  have e3 := (hB2.cell (p := ⟨w.heap.size, 0 + 2, none⟩) hz1).trans d3
  have e4 := (hB2.cell (p := ⟨w.heap.size, 0 + 3, none⟩) hz1).trans d4
  have e5 := (hB2.cell (p := ⟨w.heap.size, 0 + 4, none⟩) hz1).trans d5
  have c2 := (hC2.cell (p := ⟨b, o, none⟩) hb).trans hc
  have hz2 : w.heap.size < w2.heap.size := Nat.lt_of_lt_of_le hz1 hB2.size
  clear d1 d2 d3 d4 d5 c1 hB2
  simp only [Nat.zero_add] at e2 e3 e4 e5
  go_wp2_with fail
  refine wp_loop_rounds 2 ?_
  rw [rounds_succ]
  go_wp2_with fail
  rw [rounds_succ]
  go_wp2_with fail
  refine (makes_simple k y _ HS.out).mono ?_; rintro e w3 ⟨rfl, hB3⟩
  have hC3 := hC2.trans (hB3.mono hC2.size)
  have f1 := (hB3.cell (p := ⟨w.heap.size, 0, none⟩) hz2).trans e1
  have hz3 : w.heap.size < w3.heap.size := Nat.lt_of_lt_of_le hz2 hB3.size
  clear e1 e2 e3 e4 e5 c2 hB3
  go_wp2_with fail
  refine wp_loop_rounds 2 ?_
  rw [rounds_succ]
  go_wp2_with fail
  rw [rounds_succ]
  go_wp2_with fail
  go_ret2
  exact ⟨w3.heap.size, rfl, by simp, by simp [go_sem], by go_grown⟩

end Go.Proofs.Ytblcphibkcjmdaa
