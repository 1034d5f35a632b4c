/-
  ganseylaw39.example.
-/
import Derived.Test.YtblcphibkcjmdaaPloop
namespace Go.Proofs.Ytblcphibkcjmdaa
open Go.RowKit

def exL (_ : Nat) : Nat := 3
def exK (i j : Nat) : Int := if (i = 0 ∧ j = 1) ∨ (i = 2 ∧ j = 0) then 2 else 1
def exY (i j : Nat) : Int := if (i = 0 ∧ j = 1) ∨ i = 1 then 2 else 1

theorem seven (w : World) (c0 : List Value) (T0 : TypeId) (o1 o2 : Obj) (c3 c4 c5 c6 : List Value) (T T2 : TypeId) (W : World)
    (h : W = ((((((w.alloc (.cells c0.toArray T0)).alloc o1).alloc o2).alloc (.cells c3.toArray T)).alloc (.cells c4.toArray T)).alloc (.cells c5.toArray T)).alloc (.cells c6.toArray T2)) :
    Row W w.heap.size T0 c0 ∧ Row W (w.heap.size + 3) T c3 ∧ Row W (w.heap.size + 4) T c4 ∧ Row W (w.heap.size + 5) T c5 ∧ Row W (w.heap.size + 6) T2 c6 ∧ Below w.heap.size w W := by
  subst h
  refine ⟨((((((Row.new w T0 c0).alloc _).alloc _).alloc _).alloc _).alloc _).alloc _, ?_, ?_, ?_, ?_, ?_⟩
  · have := Row.new (((w.alloc (.cells c0.toArray T0)).alloc o1).alloc o2) T c3
    simp only [World.size_alloc] at this
    exact ((this.alloc _).alloc _).alloc _
  · have := Row.new ((((w.alloc (.cells c0.toArray T0)).alloc o1).alloc o2).alloc (.cells c3.toArray T)) T c4
    simp only [World.size_alloc] at this
    exact (this.alloc _).alloc _
  · have := Row.new (((((w.alloc (.cells c0.toArray T0)).alloc o1).alloc o2).alloc (.cells c3.toArray T)).alloc (.cells c4.toArray T)) T c5
    simp only [World.size_alloc] at this
    exact this.alloc _
  · have := Row.new ((((((w.alloc (.cells c0.toArray T0)).alloc o1).alloc o2).alloc (.cells c3.toArray T)).alloc (.cells c4.toArray T)).alloc (.cells c5.toArray T)) T2 c6
    simp only [World.size_alloc] at this
    exact this
  · exact (((((((Below.refl _ w).alloc (Nat.le_refl _) _).alloc (by simp) _).alloc (by simp; omega) _).alloc (by simp; omega) _).alloc (by simp; omega) _).alloc (by simp; omega) _).alloc (by simp; omega) _

theorem row3 {w : World} {b : Nat} {T : TypeId} {p0 p1 p2 : Int × Int} {K Y : Nat → Int} (h : Row w b T (stCells [p0, p1, p2])) (e0 : (K 0, Y 0) = p0) (e1 : (K 1, Y 1) = p1) (e2 : (K 2, Y 2) = p2) : RowAt w b 0 3 K Y := fun j hj => by
  subst e0 e1 e2
  match j, hj with
  | 0, _ => exact ⟨h.cell rfl, h.cell rfl, h.cell rfl, h.cell rfl, h.cell rfl⟩
  | 1, _ => exact ⟨h.cell rfl, h.cell rfl, h.cell rfl, h.cell rfl, h.cell rfl⟩
  | 2, _ => exact ⟨h.cell rfl, h.cell rfl, h.cell rfl, h.cell rfl, h.cell rfl⟩

set_option maxRecDepth 20000 in
set_option maxHeartbeats 2000000 in
theorem example_any (w : World) :
    Calls Try.prog 11 #[] w (fun e w' => ∃ g, e = .returned (.agg #[.slice (some ⟨g, 0, none⟩) 3 3]) ∧ ChartV w' (some ⟨g, 0, none⟩) 3 exL exK exY ∧ Below w.heap.size w w') := by
  go_enter Try.func11, Try.ntmps11
  go_wp2
  obtain ⟨r0, r3, r4, r5, r6, hB⟩ := seven w [.slice (some ⟨w.heap.size + 6, 0, none⟩) 3 3] 28 (.cells (stC (1, 1)).toArray 38) (.cells (stC (1, 2)).toArray 38)
    (stCells [(1, 1), (2, 2), (1, 1)]) (stCells [(1, 2), (1, 2), (1, 2)]) (stCells [(2, 1), (1, 1), (1, 1)]) [.slice (some ⟨w.heap.size + 3, 0, none⟩) 3 3, .slice (some ⟨w.heap.size + 4, 0, none⟩) 3 3, .slice (some ⟨w.heap.size + 5, 0, none⟩) 3 3] 38 34 _ rfl
  refine bodyPost_ret (v := .agg #[.slice (some ⟨w.heap.size + 6, 0, none⟩) 3 3]) (results_cell_row rfl _ _ w.heap.size 28 #[.slice (some ⟨w.heap.size + 6, 0, none⟩) 3 3] _ _ rfl r0 Try.underlying28 rfl (by kernel_rfl)) rfl ?_
  refine ⟨w.heap.size + 6, rfl, .inr ⟨w.heap.size + 6, 0, rfl, r6.lt, fun i hi => ?_⟩, hB⟩
  match i, hi with
  | 0, _ => exact ⟨_, _, Nat.le_refl _, r6.cell rfl, .inr ⟨_, 0, rfl, r3.lt, row3 r3 rfl rfl rfl⟩⟩
  | 1, _ => exact ⟨_, _, Nat.le_refl _, r6.cell rfl, .inr ⟨_, 0, rfl, r4.lt, row3 r4 rfl rfl rfl⟩⟩
  | 2, _ => exact ⟨_, _, Nat.le_refl _, r6.cell rfl, .inr ⟨_, 0, rfl, r5.lt, row3 r5 rfl rfl rfl⟩⟩
end Go.Proofs.Ytblcphibkcjmdaa
