/-
  The contract of gauges.Spread: a loop over the iterator of gauges.sums.
-/
import Derived.RangeFuncNested
import Derived.RangeFuncBound
import Derived.RangeFuncCalls
import Derived.RangeFuncLeaves
import Derived.RangeFuncBox
import Derived.Shelf.Abstract
import Derived.Shelf.RegionOpen
import Derived.WalkKit
import Derived.OwnWalkIn
import Derived.TacticsInMore
import Derived.LoopNIn
import Derived.LoopIn
import Derived.Maps.AppendAt
import Derived.Test.YtknkpmckgaloaaaGc
namespace Go.Proofs.Ytknkpmckgaloaaa
open Go.RowKit Go.Shelf

attribute [local go_sem] Oper.semAt_some

/-- The sum of the first k parts. -/
def part (t : Int) (p : Nat) (k : Nat) : Int := (k : Int) * t / p
def parts (t : Int) (p : Nat) (k : Nat) : List Int := (List.range k).map fun i => part t p (i + 1)
theorem parts_succ (t : Int) (p k : Nat) : parts t p (k + 1) = parts t p k ++ [part t p (k + 1)] := by simp [parts, List.range_succ]
theorem part_next (t : Int) (p k : Nat) : part t p (k + 1) = ((k : Int) + 1) * t / p := by simp [part]
theorem parts_next (t : Int) (p k : Nat) : parts t p (k + 1) = parts t p k ++ [((k : Int) + 1) * t / p] := by rw [parts_succ, part_next]
theorem parts_len (t : Int) (p k : Nat) : (parts t p k).length = k := by simp [parts]

theorem parts_prefix (t : Int) (q k p : Nat) (h : k ≤ p) : parts t q k <+: parts t q p := by
  have e : parts t q k = (parts t q p).take k := by simp [parts, ← List.map_take, List.take_range, Nat.min_eq_left h]
  rw [e]
  exact List.take_prefix _ _

/-- The two blocks that the iterator reads lie as they lay. -/
def Keep2 (Bp Bt : Nat) (W W' : World) : Prop := W'.heap[Bp]? = W.heap[Bp]? ∧ W'.heap[Bt]? = W.heap[Bt]?
theorem Keep2.refl (Bp Bt : Nat) (W : World) : Keep2 Bp Bt W W := ⟨rfl, rfl⟩
theorem Keep2.trans {Bp Bt : Nat} {A B C : World} (h : Keep2 Bp Bt A B) (k : Keep2 Bp Bt B C) : Keep2 Bp Bt A C := ⟨k.1.trans h.1, k.2.trans h.2⟩

theorem sums_in (F : Fence) (n : Nat) (hF : F.fn 21) (hro : F.round = none) (t p : Int) (w : World) :
    CallsIn F n Try.prog 21 #[.int .i64 t, .int .i64 p] w fun e w' => e = .returned (.func (.func 25) #[] #[.pointer (some ⟨w.heap.size + 1, 0, none⟩), .pointer (some ⟨w.heap.size, 0, none⟩)]) ∧
      w' = (w.alloc (.cells #[.int .i64 t] 3)).alloc (.cells #[.int .i64 p] 3) := by
  refine callsIn_of_wp Try.func21 rfl hF ?_ hro
  simp only [Try.ntmps21, List.size_toArray, List.length_cons, List.length_nil, Nat.reduceAdd, Nat.reduceSub, Array.replicate_succ, Array.replicate_zero, List.push_toArray, List.append_toArray, List.nil_append, List.cons_append]
  gi_wp2
  go_ret
  exact ⟨rfl, rfl⟩

set_option maxRecDepth 100000 in
set_option maxHeartbeats 1000000 in
theorem sums1_in (F : Fence) (n : Nat) (hF : F.fn 25) (hro : F.round = none) (hn : 1 ≤ n) (l Bp Bt : Nat) (t : Int) (p : Nat) (ht : 0 ≤ t) (ht2 : t ≤ 80000) (hp1 : 1 ≤ p) (hp2 : p ≤ 400) (J Jx : List Int → World → Prop)
    (hY : ∀ pre x W, J pre W → pre.length < p → YieldAt F (n - 1) Try.prog l #[.int .i64 x] W fun e W' =>
      (e = .returned (.bool true) ∧ J (pre ++ [x]) W' ∧ Keep2 Bp Bt W W') ∨ (e = .returned (.bool false) ∧ Jx (pre ++ [x]) W'))
    (W : World) (hcp : W.cell? ⟨Bp, 0, none⟩ = some (.int .i64 p)) (hct : W.cell? ⟨Bt, 0, none⟩ = some (.int .i64 t)) (h0 : J [] W) :
    CallsIn F n Try.prog 25 #[.func (.yield l) #[] #[], .pointer (some ⟨Bp, 0, none⟩), .pointer (some ⟨Bt, 0, none⟩)] W fun e W' => (∃ v, e = .returned v) ∧
      ((∃ ys, ys = parts t p p ∧ J ys W') ∨ (∃ pre, pre <+: parts t p p ∧ Jx pre W')) := by
  refine callsIn_of_wp Try.func25 rfl hF ?_ hro
  simp only [Try.ntmps25, List.size_toArray, List.length_cons, List.length_nil, Nat.reduceAdd, Nat.reduceSub, Array.replicate_succ, Array.replicate_zero, List.push_toArray, List.append_toArray, List.nil_append, List.cons_append]
  gi_wp2
  gi_loopw [6] (fun i wr => ∃ k : Nat, k ≤ p ∧ i = .int .i64 k ∧ J (parts t p k) wr ∧ Keep2 Bp Bt W wr) (fun i _ => p - (intOf i).toNat)
  case atStart =>
    exact ⟨0, by omega, rfl, h0, Keep2.refl _ _ _⟩
  case round =>
    obtain ⟨k, hk, rfl, hJs, hB⟩ := hrel
    by_cases hkp : k < p
    · have q1 := (World.cell?_of_block (a := ⟨Bp, 0, none⟩) hB.1).trans hcp
      have q2 := (World.cell?_of_block (a := ⟨Bt, 0, none⟩) hB.2).trans hct
      obtain ⟨m1, m2⟩ := mul_bd ((k : Int) + 1) t 400 80000 (by omega) (by omega) ht ht2
      obtain ⟨fn, tmps, assign, body, hy, hR⟩ := hY (parts t p k) (((k : Int) + 1) * t / p) wr hJs (by rw [parts_len]; omega)
      gi_wp2
      refine hR.mono ?_
      rintro e W3 (⟨rfl, hJ3, hk3⟩ | ⟨rfl, hJx3⟩)
      · gi_wp2
        go_roundw
        case rel => exact ⟨k + 1, by omega, by go_num, by rw [parts_next]; exact hJ3, hB.trans hk3⟩
        case measure => simp [intOf]; omega
      · gi_wp2
        refine bodyPost_ret (results_none rfl _ _ _) rfl ?_
        refine ⟨⟨_, rfl⟩, .inr ⟨_, ?_, hJx3⟩⟩
        rw [← parts_next]
        exact parts_prefix t p (k + 1) p (by omega)
    · obtain rfl : k = p := by omega
      gi_wp2
      go_end0
      exact ⟨⟨_, rfl⟩, .inl ⟨_, rfl, hJs⟩⟩

theorem sums_stops (F : Fence) (n : Nat) (hF : F.fn 25) (hro : F.round = none) (hn : 1 ≤ n) (Bp Bt : Nat) (t : Int) (p : Nat) (ht : 0 ≤ t) (ht2 : t ≤ 80000) (hp1 : 1 ≤ p) (hp2 : p ≤ 400)
    (w : World) (hBp : Bp < w.heap.size) (hBt : Bt < w.heap.size) (hcp : w.cell? ⟨Bp, 0, none⟩ = some (.int .i64 p)) (hct : w.cell? ⟨Bt, 0, none⟩ = some (.int .i64 t)) :
    SeqStopsK F n Try.prog 25 #[.pointer (some ⟨Bp, 0, none⟩), .pointer (some ⟨Bt, 0, none⟩)] (fun x : Int => #[Value.int .i64 x]) (Keep2 Bp Bt) (fun ys => ys = parts t p p) (fun pre => pre <+: parts t p p) p w := fun l J Jx W hW _ _ hY h0 =>
  sums1_in F n hF hro hn l Bp Bt t p ht ht2 hp1 hp2 J Jx hY W ((hW.cell (p := ⟨Bp, 0, none⟩) hBp).trans hcp) ((hW.cell (p := ⟨Bt, 0, none⟩) hBt).trans hct) h0

/-- The last of the sums that have come, or 0. -/
def lastOf (pre : List Int) : Int := pre.getLast?.getD 0
/-- Their differences. -/
def diffs : Int → List Int → List Int
  | _, [] => []
  | a, x :: l => wrap64 (x - a) :: diffs x l
theorem lastOf_snoc (pre : List Int) (x : Int) : lastOf (pre ++ [x]) = x := by simp [lastOf]
theorem diffs_len : ∀ (a : Int) (l : List Int), (diffs a l).length = l.length
  | _, [] => rfl
  | a, x :: l => by simp [diffs, diffs_len x l]
theorem diffs_snoc : ∀ (a : Int) (l : List Int) (x : Int), diffs a (l ++ [x]) = diffs a l ++ [wrap64 (x - l.getLast?.getD a)]
  | a, [], x => rfl
  | a, y :: l, x => by
    simp only [List.cons_append, diffs, diffs_snoc y l x, List.cons.injEq, true_and]
    cases l with
    | nil => rfl
    | cons z l => rw [List.getLast?_cons_cons, List.getLast?_cons, Option.getD_some, Option.getD_some]

def SpreadPost (w : World) (t : Int) (p : Nat) (e : Ending) (w' : World) : Prop :=
  e = .returned (.tuple #[.slice (some ⟨w.heap.size, 0, none⟩) p p, .int .i64 0]) ∧ w'.ownsRow w.heap.size 3 1 (.slice (some ⟨w.heap.size, 0, none⟩) p p) p (vals (diffs 0 (parts t p p))) ∧ Below w.heap.size w w'

set_option maxRecDepth 100000 in
set_option maxHeartbeats 2000000 in
theorem spread_in (F : Fence) (n : Nat) (hF : F.fn 15) (hF2 : F.fn 21) (hF3 : F.fn 25) (hro : F.round = none) (hn : 3 ≤ n) (t : Int) (p : Nat) (ht : 0 ≤ t) (ht2 : t ≤ 80000) (hp1 : 1 ≤ p) (hp2 : p ≤ 400) (w : World) :
    CallsIn F n Try.prog 15 #[.int .i64 t, .int .i64 p] w (SpreadPost w t p) := by
  have t1 : decide ((p : Int) < 1) = false := by simp; omega
  have t2 : decide (400 < (p : Int)) = false := by simp; omega
  have t3 : decide (t < 0) = false := by simp; omega
  have t4 : decide (80000 < t) = false := by simp; omega
  have h1 : 1 ≤ n := by omega
  obtain ⟨i0, hi, hz0, hz1, hz2⟩ := info_parts even_info
  refine callsIn_of_wp_marks Try.func15 rfl hF ?_ hro
  simp only [Try.ntmps15, List.size_toArray, List.length_cons, List.length_nil, Nat.reduceAdd, Nat.reduceSub, Array.replicate_succ, Array.replicate_zero, List.push_toArray, List.append_toArray, List.nil_append, List.cons_append]
  gi_wp2_with (first | (gi_at_make; refine wpListIn_make_own _ rfl _ _ 31 rfl w.heap.size 3 i0 (.int .i64 0) 1 Try.underlying31 hi hz0 hz1 _ _ _ p rfl rfl rfl (by rw [hz2]; omega) (by unfold maxLen; omega) (by simp) ?_; intro w1 hown hgrow; have hz := hgrow.size; have hB1 : Below w.heap.size w w1 := Below.grown (Below.refl _ _) hgrow (Nat.le_refl _) (fun k hk => by cases hk); clear hgrow) | (gi_at_call 21; refine (sums_in F (n - 1) hF2 hro _ _ _).mono ?_; rintro e w' ⟨rfl, rfl⟩))
  clear t1 t2 t3 t4
  obtain ⟨B, hBe⟩ : ∃ B, B = w1.heap.size := ⟨_, rfl⟩
  obtain ⟨W0, hW0⟩ : ∃ W0, W0 = ((((w1.alloc (.cells #[.slice (some ⟨w.heap.size, 0, none⟩) 0 p] 31)).alloc (.cells #[.int .i64 0] 3)).alloc (.cells #[.int .i64 t] 3)).alloc (.cells #[.int .i64 p] 3)) := ⟨_, rfl⟩
  have hW0z : W0.heap.size = B + 4 := by rw [hW0, hBe]; simp
  have b1 : Boxed W0 B 31 (.slice (some ⟨w.heap.size, 0, none⟩) 0 p) := by rw [hW0, hBe]; exact (((Boxed.new _ _ _).alloc _).alloc _).alloc _
  have b2 : Boxed W0 (B + 1) 3 (.int .i64 0) := by
    rw [hW0, hBe]
    have := Boxed.new (w1.alloc (.cells #[.slice (some ⟨w.heap.size, 0, none⟩) 0 p] 31)) 3 (.int .i64 0)
    rw [World.size_alloc] at this
    exact (this.alloc _).alloc _
  have b3 : Boxed W0 (B + 2) 3 (.int .i64 t) := by
    rw [hW0, hBe]
    have := Boxed.new ((w1.alloc (.cells #[.slice (some ⟨w.heap.size, 0, none⟩) 0 p] 31)).alloc (.cells #[.int .i64 0] 3)) 3 (.int .i64 t)
    rw [World.size_alloc, World.size_alloc] at this
    exact this.alloc _
  have b4 : Boxed W0 (B + 3) 3 (.int .i64 p) := by
    rw [hW0, hBe]
    have := Boxed.new (((w1.alloc (.cells #[.slice (some ⟨w.heap.size, 0, none⟩) 0 p] 31)).alloc (.cells #[.int .i64 0] 3)).alloc (.cells #[.int .i64 t] 3)) 3 (.int .i64 p)
    rw [World.size_alloc, World.size_alloc, World.size_alloc] at this
    exact this
  have r1 : W0.ownsRow w.heap.size 3 1 (.slice (some ⟨w.heap.size, 0, none⟩) 0 p) 0 [] := by rw [hW0]; exact (((hown.alloc _).alloc _).alloc _).alloc _
  have hBB : Below w.heap.size w W0 := by rw [hW0]; exact (((hB1.alloc hz _).alloc (by simp; omega) _).alloc (by simp; omega) _).alloc (by simp; omega) _
  have hGB : w.heap.size < B := by
    have := (hown.lt w.heap.size rfl).2
    omega
  rw [← hBe, ← hW0]
  clear hW0 hown hB1 hz hBe
  refine wpIn_rangeFunc_ownG hro h1 (gf := 25) (lb := #[.pointer (some ⟨B + 1 + 1 + 1, 0, none⟩), .pointer (some ⟨B + 1 + 1, 0, none⟩)]) rfl hF3 (enters_of Try.func25 (by kernel_rfl) rfl)
    (sums_stops F (n - 1) hF3 hro (by omega) (B + 3) (B + 2) t p ht ht2 hp1 hp2 W0 (by omega) (by omega) b4.cell b3.cell)
    Keep2.trans (fun W l o o' hl _ _ _ => ⟨World.putObj_heap_other (by omega), World.putObj_heap_other (by omega)⟩) (Below.refl _ _) (fun _ => rfl)
    (fun pre W => Boxed W B 31 (.slice (some ⟨w.heap.size, 0, none⟩) pre.length p) ∧ W.ownsRow w.heap.size 3 1 (.slice (some ⟨w.heap.size, 0, none⟩) pre.length p) pre.length (vals (diffs 0 pre)) ∧ Boxed W (B + 1) 3 (.int .i64 (lastOf pre)) ∧ Below w.heap.size w W ∧ W0.heap.size ≤ W.heap.size)
    (fun _ _ _ => False)
    (by
      rintro s X Y row ⟨k1, k2, k3, k4, k5⟩ hg hrow
      refine ⟨k1.kept hg (fun e => by have := (hrow _ e.symm).1; omega), k2.kept hg (.inr (fun e => by simp [Value.ownBlock] at e; have := (hrow _ e.symm).1; omega)), k3.kept hg (fun e => by have := (hrow _ e.symm).1; omega), k4.grown hg k4.size (fun k e => by have := (hrow k e).1; omega), Nat.le_trans k5 hg.size⟩)
    (fun _ _ _ _ _ hs _ _ => hs)
    ⟨b1, r1, b2, hBB, Nat.le_refl _⟩
    (fun x => { tmps := #[.int .i64 t, .int .i64 p, undef, undef, .slice none 0 0, .int .i64 0, .pointer (some ⟨B, 0, none⟩), .pointer (some ⟨B + 1, 0, none⟩), .int .i64 x, .int .i64 p, .bool false, .bool false, .int .i64 p, .bool false, .bool false, .bool false, .int .i64 t, .bool false, .bool false, .bool false, .int .i64 t, .bool false, .bool false, .int .i64 p, .slice (some ⟨w.heap.size, 0, none⟩) 0 p, .int .i64 t, .int .i64 p, .func (.func 25) #[] #[.pointer (some ⟨B + 1 + 1 + 1, 0, none⟩), .pointer (some ⟨B + 1 + 1, 0, none⟩)], .int .i64 x, undef, undef, undef, undef, undef, undef, undef, undef], defers := [] }) ?assign ?body ?done ?stop
  case assign =>
    intro l x W K hK
    gi_wp2
    exact hK
  case body =>
    rintro l pre x W ⟨k1, k2, k3, k4, k5⟩ hlt
    have c1 := k1.cell
    have c2 := k3.cell
    have hGW : w.heap.size ≤ W.heap.size := k4.size
    have hBW : B < W.heap.size := by omega
    have hBW1 : B + 1 < W.heap.size := by omega
    gi_wp2_with (gi_at_builtin; refine wpListIn_append_fits _ rfl _ _ 31 rfl w.heap.size 3 i0 1 Try.underlying31 hi hz1 w.heap.size pre.length p _ rfl (k2.alloc _) ⟨W.heap.size, 0, none⟩ 1 1 [.int .i64 (wrap64 (x - lastOf pre))] rfl rfl (cell_one_new _ _ _) (by simp [Value.oneCell']) (by omega) ?_; intro w3 hown3 hgrow3; have p1 : Boxed w3 B 31 (.slice (some ⟨w.heap.size, 0, none⟩) pre.length p) := (k1.alloc _).kept hgrow3 (fun e => by have := Option.some.inj e; omega); have p2 : Boxed w3 (B + 1) 3 (.int .i64 (lastOf pre)) := (k3.alloc _).kept hgrow3 (fun e => by have := Option.some.inj e; omega); have q1 := p1.cell; have q2 := p1.frozen; have q3 := p2.cell; have q4 := p2.frozen; have q5 : Below w.heap.size w w3 := Below.grown (k4.alloc hGW _) hgrow3 (Nat.le_trans hGW (by simp)) (fun j hj => by cases hj; exact Nat.le_refl _); have q6 : W.heap.size + 1 ≤ w3.heap.size := Nat.le_trans (Nat.le_of_eq (World.size_alloc _ _).symm) hgrow3.size; have q7 : KeepsFrom W0.heap.size W w3 := ((KeepsOthers.alloc W _).from _).trans (KeepsFrom.of_grownBy hgrow3 (fun j hj => by cases hj; omega)); have q8 := Lib.hid hown3; clear hown3; have q9 : Keep2 (B + 3) (B + 2) W w3 := ⟨(hgrow3.block (B + 3) (by simp; omega) (fun e => by have := Option.some.inj e; omega)).trans (Below.heap_alloc _ _ _ (by omega)), (hgrow3.block (B + 2) (by simp; omega) (fun e => by have := Option.some.inj e; omega)).trans (Below.heap_alloc _ _ _ (by omega))⟩; have q10 := Lib.hid hgrow3; clear hgrow3)
    obtain ⟨v', hv'⟩ : ∃ v', v' = Value.slice (some ⟨w.heap.size, 0, none⟩) (pre.length + 1) p := ⟨_, rfl⟩
    refine ⟨(q7.trans ((KeepsOthers.setCell _ _ _).from _)).trans ((KeepsOthers.setCell _ _ _).from _), q9.trans ⟨?_, ?_⟩, ?_, ?_, ?_, ?_, ?_⟩
    · rw [Below.heap_setCell _ _ _ _ (by show B + 3 ≠ B + 1; omega), Below.heap_setCell _ _ _ _ (by show B + 3 ≠ B; omega)]
    · rw [Below.heap_setCell _ _ _ _ (by show B + 2 ≠ B + 1; omega), Below.heap_setCell _ _ _ _ (by show B + 2 ≠ B; omega)]
    · have := (p1.set (.slice (some ⟨w.heap.size, 0, none⟩) (pre.length + 1) p)).kept (grownBy_setCell' _ (B + 1) (.int .i64 x)) (fun e => by have := Option.some.inj e; omega)
      simpa using this
    · have h1 := (q8.out.kept (grownBy_setCell' _ B (.slice (some ⟨w.heap.size, 0, none⟩) (pre.length + 1) p)) (.inr (fun e => by simp [Value.ownBlock] at e; omega))).kept (grownBy_setCell' _ (B + 1) (.int .i64 x)) (.inr (fun e => by simp [Value.ownBlock] at e; omega))
      rw [diffs_snoc]
      simpa [vals, lastOf] using h1
    · rw [lastOf_snoc]
      have := p2.kept (grownBy_setCell' _ B (.slice (some ⟨w.heap.size, 0, none⟩) (pre.length + 1) p)) (fun e => by have := Option.some.inj e; omega)
      exact this.set _
    · exact (q5.setCell (p := ⟨B, 0, none⟩) (Nat.le_of_lt hGB) _).setCell (p := ⟨B + 1, 0, none⟩) (by show w.heap.size ≤ B + 1; omega) _
    · simp [World.setCell]
      omega
  case done =>
    rintro D ys W hD rfl ⟨k1, k2, k3, k4, k5⟩ hK
    rw [parts_len] at k1 k2
    have c1 := k1.cell
    gi_wp2
    refine ⟨by simp, .inl ⟨_, _, rfl, run_takeDeferred hK, ?_⟩⟩
    refine ⟨_, results_tmp2 rfl _ _ _, rfl, ownsRow_putObj k2 _ hK rfl, k4.trans (belowK_b (w := w) (Nat.le_refl _) W D _ _ (by omega) hK rfl rfl)⟩
  case stop =>
    rintro D c pre W _ _ h _
    exact h.elim

theorem spread_yes (t : Int) (p : Nat) (ht : 0 ≤ t) (ht2 : t ≤ 80000) (hp1 : 1 ≤ p) (hp2 : p ≤ 400) (w : World) :
    Calls Try.prog 15 #[.int .i64 t, .int .i64 p] w (SpreadPost w t p) :=
  (callsIn_wide (n := 3)).1 (spread_in Fence.wide 3 trivial trivial trivial rfl (Nat.le_refl _) t p ht ht2 hp1 hp2 w)

end Go.Proofs.Ytknkpmckgaloaaa
