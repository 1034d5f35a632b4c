/-
  The contract of pictures.clip.
-/
import Derived.Test.YtblcphibkcjmdaaPrev
namespace Go.Proofs.Ytblcphibkcjmdaa
open Go.RowKit

/-- Rows as slices: the first k of them clipped. -/
def sliceV (A L C : Nat → Nat) (i : Nat) : Value := .slice (some ⟨A i, 0, none⟩) (L i) (C i)
def clipd (n k : Nat) (A L C : Nat → Nat) (f : Nat → Value) (i : Nat) : Value := if i < k then sliceV A L L i else if i < n then sliceV A L C i else f i
theorem clipd_succ (N n k : Nat) (A L C : Nat → Nat) (f : Nat → Value) : (vrow N (clipd n k A L C f)).set k (sliceV A L L k) = vrow N (clipd n (k + 1) A L C f) := by
  rw [vrow_set]
  apply vrow_congr
  intro i hi
  simp only [clipd]
  by_cases h : i = k
  · rw [if_pos h, if_pos (by omega), h]
  · rw [if_neg h]
    by_cases h2 : i < k
    · rw [if_pos h2, if_pos (by omega)]
    · have : ¬ i < k + 1 := by omega
      rw [if_neg h2, if_neg this]

def ClipPost (n N g : Nat) (E : TypeId) (A L C : Nat → Nat) (f : Nat → Value) (w : World) (en : Ending) (w' : World) : Prop :=
  en = .returned (.agg #[.slice (some ⟨g, 0, none⟩) n n]) ∧ Row w' g E (vrow N (clipd n n A L C f)) ∧ w.grownBy w' (some g)
theorem noWay_clip {P : Program} {fn : Func} {n N g : Nat} {E : TypeId} {A L C : Nat → Nat} {f : Nat → Value} {w : World} : NoWay (bodyPost P fn (ClipPost n N g E A L C f w)) :=
  noWay_body (fun _ _ h => by obtain ⟨h, _⟩ := h; cases h) (fun _ h => by obtain ⟨h, _⟩ := h; cases h)

set_option maxRecDepth 20000 in
set_option maxHeartbeats 2000000 in
theorem clip_chart (n cap N g : Nat) (E : TypeId) (A L C : Nat → Nat) (f : Nat → Value) (w : World) (hn : n ≤ 100000) (hN : n ≤ N) (hcap : n ≤ cap) (hLC : ∀ i, i < n → L i ≤ C i) (hr : Row w g E (vrow N (clipd n 0 A L C f))) :
    Calls Try.prog 15 #[.agg #[.slice (some ⟨g, 0, none⟩) n cap]] w (ClipPost n N g E A L C f w) := by
  have HL := Lib.hid hLC
  have hg := hr.lt
  have hr2 := Lib.hid ((hr.alloc (.cells #[.slice (some ⟨g, 0, none⟩) n cap] 28)).alloc (.cells #[.slice none 0 0] 28))
  clear hLC hr
  go_enter Try.func15, Try.ntmps15
  go_wp2
  obtain ⟨W0, hW0⟩ : ∃ W0, W0 = ((w.alloc (.cells #[.slice (some ⟨g, 0, none⟩) n cap] 28)).alloc (.cells #[.slice none 0 0] 28)) := ⟨_, rfl⟩
  have hB0 : Below w.heap.size w W0 := by rw [hW0]; exact ((Below.refl _ w).alloc (Nat.le_refl _) _).alloc (by simp) _
  have hz0 : W0.heap.size = w.heap.size + 2 := by rw [hW0]; simp
  have c1 : W0.cell? ⟨w.heap.size, 0, none⟩ = some (.slice (some ⟨g, 0, none⟩) n cap) := by rw [hW0]; simp [go_sem]
  have c2 : W0.cell? ⟨w.heap.size + 1, 0, none⟩ = some (.slice none 0 0) := by rw [hW0]; simp [go_sem]
  have c3 : W0.frozen? ⟨w.heap.size + 1, 0, none⟩ = false := by rw [hW0]; simp [go_sem]
  have c4 : Row W0 (w.heap.size + 1) 28 [.slice none 0 0] := by rw [hW0]; have := Row.new (w.alloc (.cells #[.slice (some ⟨g, 0, none⟩) n cap] 28)) 28 [.slice none 0 0]; simpa using this
  rw [← hW0] at hr2 ⊢
  clear hW0
  go_loopw [8] (fun i wr => ∃ k : Nat, k ≤ n ∧ i = .int .i64 k ∧ Row wr g E (vrow N (clipd n k A L C f)) ∧ But g W0 wr) (fun i _ => n - (intOf i).toNat)
  case atStart => exact ⟨0, Nat.zero_le _, rfl, hr2.out, But.refl _ _⟩
  case round =>
    obtain ⟨k, hk, rfl, hrow, hB⟩ := hrel
    have d1 : wr.cell? ⟨w.heap.size, 0, none⟩ = some (.slice (some ⟨g, 0, none⟩) n cap) := (World.cell?_of_block (a := ⟨w.heap.size, 0, none⟩) (hB.2.2.2.2 _ (by show w.heap.size ≠ g; omega))).trans c1
    by_cases hkn : k < n
    · have e1 := hrow.cell (vrow_get (clipd n k A L C f) (show k < N by omega))
      have e2 : clipd n k A L C f k = .slice (some ⟨A k, 0, none⟩) (L k) (C k) := by unfold clipd; rw [if_neg (by omega), if_pos hkn]; rfl
      rw [e2] at e1
      have hfr : ∀ i, wr.frozen? ⟨g, i, none⟩ = false := hrow.frozen
      have hs := hrow.setCell k (sliceV A L L k)
      rw [clipd_succ] at hs
      have HR := Lib.hid hs
      have hlc := HL.out k hkn
      clear hs hrow e2
      go_wp2
      refine wp_region_floats [(1, [0, 1, 2]), (0, [3]), (2, [4, 5, 6])] (fun w' => But g wr w') (by kernel_rfl) (by kernel_rfl) (by kernel_rfl) (noWay_clip (P := Try.prog) (fn := Try.f15) (n := n) (N := N) (g := g) (E := E) (A := A) (L := L) (C := C) (f := f) (w := w)) ((But.refl _ _).drew) ?_
      simp only [wpZ, wpFloats, wpOthers, picks, List.drop_succ_cons, List.drop_zero, List.take_succ_cons, List.take_zero, List.cons_append, List.nil_append]
      iterate 3
        apply Exists.intro
        refine ⟨fun w' hI => ?_, ?_⟩
        · have d2 : w'.cell? ⟨w.heap.size, 0, none⟩ = some (.slice (some ⟨g, 0, none⟩) n cap) := (World.cell?_of_block (a := ⟨w.heap.size, 0, none⟩) (hI.2.2.2.2 _ (by show w.heap.size ≠ g; omega))).trans d1
          go_wp2
          exact ⟨trivial, rfl⟩
      go_wp2_with fail
      refine ⟨trivial, ?_⟩
      go_wp2_with fail
      refine (clip_row (L k) (C k) (A k) 0 wr.drew hlc).mono ?_; rintro e w5 ⟨rfl, rfl⟩
      go_wp2_with fail
      refine ⟨(But.refl _ _).drew, ?_⟩
      go_wp2
      refine ⟨(But.refl _ _).drew, ?_⟩
      go_wp2
      refine ⟨((But.refl _ _).drew).setCell _ _, ?_⟩
      go_wp2
      go_roundw
      case rel => exact ⟨k + 1, by omega, by go_num, HR.out, (hB.drew).setCell _ _⟩
      case measure => simp [intOf]; omega
    · have d2 : wr.cell? ⟨w.heap.size + 1, 0, none⟩ = some (.slice none 0 0) := (World.cell?_of_block (a := ⟨w.heap.size + 1, 0, none⟩) (hB.2.2.2.2 _ (by show w.heap.size + 1 ≠ g; omega))).trans c2
      have d3 : wr.frozen? ⟨w.heap.size + 1, 0, none⟩ = false := (World.frozen?_of_block (a := ⟨w.heap.size + 1, 0, none⟩) (hB.2.2.2.2 _ (by show w.heap.size + 1 ≠ g; omega))).trans c3
      have d4 : Row wr (w.heap.size + 1) 28 [.slice none 0 0] := c4.of_heap (hB.2.2.2.2 _ (by omega))
      have hcc := Lib.hid (clip_rows n cap g 0 wr hcap)
      obtain rfl : n = k := by omega
      go_wp2_with fail
      refine (hcc.out).mono ?_; rintro e w5 ⟨rfl, rfl⟩
      go_wp2
      refine bodyPost_ret (v := .agg #[.slice (some ⟨g, 0, none⟩) n n]) (results_cell_row rfl _ _ (w.heap.size + 1) 28 #[.slice (some ⟨g, 0, none⟩) n n] _ _ rfl (d4.setCell 0 _) Try.underlying28 rfl (by kernel_rfl)) rfl ?_
      refine ⟨rfl, hrow.setCell_other (by show g ≠ w.heap.size + 1; omega) _, ?_⟩
      exact ⟨hB.1.trans hB0.os, hB.2.1.trans hB0.tape, hB.2.2.1.trans hB0.output, by have := hB.2.2.2.1; simp [World.setCell]; omega, fun j hj hne => (Below.heap_setCell _ _ _ j (by show j ≠ w.heap.size + 1; omega)).trans ((hB.2.2.2.2 j (fun e => hne (by rw [e]))).trans (hB0.block j hj))⟩
end Go.Proofs.Ytblcphibkcjmdaa
