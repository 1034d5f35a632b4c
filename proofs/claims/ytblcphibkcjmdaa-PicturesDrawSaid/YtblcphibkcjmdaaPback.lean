/-
  The contract of the iterator slices.Backward over the rows of a chart.
-/
import Derived.RangeFuncNested
import Derived.RangeFuncBound
import Derived.RangeFuncCalls
import Derived.RangeFuncLeaves
import Derived.RangeFuncBox
import Derived.Shelf.Abstract
import Derived.Shelf.RegionOpen
import Derived.WalkKit
import Derived.OwnWalkIn
import Derived.TacticsInMore
import Derived.LoopNIn
import Derived.LoopIn
import Derived.Maps.AppendAt
import Derived.Test.YtblcphibkcjmdaaPclip
namespace Go.Proofs.Ytblcphibkcjmdaa
open Go.RowKit Go.Shelf

attribute [local go_sem] Oper.semAt_some

/-- The rows' numbers, from the last on: the first k of them. -/
def back (n k : Nat) : List Nat := (List.range k).map fun j => n - 1 - j
theorem back_succ (n k : Nat) : back n (k + 1) = back n k ++ [n - 1 - k] := by simp [back, List.range_succ]
theorem back_len (n k : Nat) : (back n k).length = k := by simp [back]
theorem back_prefix (n k p : Nat) (h : k ≤ p) : back n k <+: back n p := by
  have e : back n k = (back n p).take k := by simp [back, ← List.map_take, List.take_range, Nat.min_eq_left h]
  rw [e]
  exact List.take_prefix _ _

/-- Two blocks lie as they lay. -/
def Keep2 (Bp Bt : Nat) (W W' : World) : Prop := W'.heap[Bp]? = W.heap[Bp]? ∧ W'.heap[Bt]? = W.heap[Bt]?
theorem Keep2.refl (Bp Bt : Nat) (W : World) : Keep2 Bp Bt W W := ⟨rfl, rfl⟩
theorem Keep2.trans {Bp Bt : Nat} {A B C : World} (h : Keep2 Bp Bt A B) (k : Keep2 Bp Bt B C) : Keep2 Bp Bt A C := ⟨k.1.trans h.1, k.2.trans h.2⟩

/-- What the iterator hands over of row i. -/
def rowEnc (A : Nat → Option Addr) (L C : Nat → Nat) (i : Nat) : Array Value := #[.int .i64 i, .slice (A i) (L i) (C i)]

theorem backward_in (F : Fence) (n : Nat) (hF : F.fn 16) (hro : F.round = none) (ao : Option Addr) (len cap : Nat) (w : World) :
    CallsIn F n Try.prog 16 #[.slice ao len cap] w fun e w' => e = .returned (.func (.func 23) #[] #[.pointer (some ⟨w.heap.size, 0, none⟩)]) ∧
      w' = w.alloc (.cells #[.slice ao len cap] 26) := by
  refine callsIn_of_wp Try.func16 rfl hF ?_ hro
  simp only [Try.ntmps16, List.size_toArray, List.length_cons, List.length_nil, Nat.reduceAdd, Nat.reduceSub, Array.replicate_succ, Array.replicate_zero, List.push_toArray, List.append_toArray, List.nil_append, List.cons_append]
  gi_wp2
  go_ret
  exact ⟨rfl, rfl⟩

set_option maxRecDepth 100000 in
set_option maxHeartbeats 1000000 in
theorem back1_in (F : Fence) (n : Nat) (hF : F.fn 23) (hro : F.round = none) (hn : 1 ≤ n) (l Bp b off p cap : Nat) (A : Nat → Option Addr) (L C : Nat → Nat) (hp2 : p ≤ 100000) (J Jx : List Nat → World → Prop)
    (hY : ∀ pre x W, J pre W → pre.length < p → YieldAt F (n - 1) Try.prog l (rowEnc A L C x) W fun e W' =>
      (e = .returned (.bool true) ∧ J (pre ++ [x]) W' ∧ Keep2 Bp b W W') ∨ (e = .returned (.bool false) ∧ Jx (pre ++ [x]) W'))
    (W : World) (hcp : W.cell? ⟨Bp, 0, none⟩ = some (.slice (some ⟨b, off, none⟩) p cap)) (hct : ∀ i, i < p → W.cell? ⟨b, off + i, none⟩ = some (.slice (A i) (L i) (C i))) (h0 : J [] W) :
    CallsIn F n Try.prog 23 #[.func (.yield l) #[] #[], .pointer (some ⟨Bp, 0, none⟩)] W fun e W' => (∃ v, e = .returned v) ∧
      ((∃ ys, ys = back p p ∧ J ys W') ∨ (∃ pre, pre <+: back p p ∧ Jx pre W')) := by
  refine callsIn_of_wp Try.func23 rfl hF ?_ hro
  simp only [Try.ntmps23, List.size_toArray, List.length_cons, List.length_nil, Nat.reduceAdd, Nat.reduceSub, Array.replicate_succ, Array.replicate_zero, List.push_toArray, List.append_toArray, List.nil_append, List.cons_append]
  gi_wp2
  gi_loopw [3] (fun i wr => ∃ k : Nat, k ≤ p ∧ i = .int .i64 ((p : Int) - 1 - k) ∧ J (back p k) wr ∧ Keep2 Bp b W wr) (fun i _ => (intOf i + 1).toNat)
  case atStart =>
    exact ⟨0, by omega, by simp, h0, Keep2.refl _ _ _⟩
  case round =>
    obtain ⟨k, hk, rfl, hJs, hB⟩ := hrel
    have q1 := (World.cell?_of_block (a := ⟨Bp, 0, none⟩) hB.1).trans hcp
    by_cases hkp : k < p
    · obtain ⟨q, hq⟩ : ∃ q : Nat, q = p - 1 - k := ⟨_, rfl⟩
      have hq2 : ((p : Int) - 1 - k) = q := by omega
      rw [hq2]
      have q2 := (World.cell?_of_block (a := ⟨b, off + q, none⟩) hB.2).trans (hct q (by omega))
      have hbs := back_succ p k
      rw [← hq] at hbs
      unfold rowEnc at hY
      obtain ⟨fn, tmps, assign, body, hy, hR⟩ := hY (back p k) q wr hJs (by rw [back_len]; omega)
      have hqp : q < p := by omega
      have hq3 : q + k + 1 = p := by omega
      clear hq hq2
      gi_wp2
      refine hR.mono ?_
      rintro e W3 (⟨rfl, hJ3, hk3⟩ | ⟨rfl, hJx3⟩)
      · gi_wp2
        go_roundw
        case rel => exact ⟨k + 1, by omega, by go_num, by rw [hbs]; exact hJ3, hB.trans hk3⟩
        case measure => simp [intOf]
      · gi_wp2
        refine bodyPost_ret (results_none rfl _ _ _) rfl ?_
        refine ⟨⟨_, rfl⟩, .inr ⟨_, ?_, hJx3⟩⟩
        rw [← hbs]
        exact back_prefix p (k + 1) p (by omega)
    · obtain rfl : k = p := by omega
      have e1 : ((k : Int) - 1 - k) = -1 := by omega
      rw [e1]
      gi_wp2
      go_end0
      exact ⟨⟨_, rfl⟩, .inl ⟨_, rfl, hJs⟩⟩

theorem back_stops (F : Fence) (n : Nat) (hF : F.fn 23) (hro : F.round = none) (hn : 1 ≤ n) (Bp b off p cap : Nat) (A : Nat → Option Addr) (L C : Nat → Nat) (hp2 : p ≤ 100000)
    (w : World) (hBp : Bp < w.heap.size) (hBt : b < w.heap.size) (hcp : w.cell? ⟨Bp, 0, none⟩ = some (.slice (some ⟨b, off, none⟩) p cap)) (hct : ∀ i, i < p → w.cell? ⟨b, off + i, none⟩ = some (.slice (A i) (L i) (C i))) :
    SeqStopsK F n Try.prog 23 #[.pointer (some ⟨Bp, 0, none⟩)] (rowEnc A L C) (Keep2 Bp b) (fun ys => ys = back p p) (fun pre => pre <+: back p p) p w := fun l J Jx W hW _ _ hY h0 =>
  back1_in F n hF hro hn l Bp b off p cap A L C hp2 J Jx hY W ((hW.cell (p := ⟨Bp, 0, none⟩) hBp).trans hcp) (fun i hi => (hW.cell (p := ⟨b, off + i, none⟩) hBt).trans (hct i hi)) h0

end Go.Proofs.Ytblcphibkcjmdaa
