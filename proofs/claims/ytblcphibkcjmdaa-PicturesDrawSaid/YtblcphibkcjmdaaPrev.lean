/-
  Contracts: slices.Reverse, slices.Clip, pictures.clip.
-/
import Derived.Test.YtblcphibkcjmdaaPsame
namespace Go.Proofs.Ytblcphibkcjmdaa
open Go.RowKit

/-- The first n of the values turned, as far as k rounds turn them. -/
def revd (n k : Nat) (f : Nat → Value) (i : Nat) : Value := if i < n ∧ (i < k ∨ n ≤ i + k) then f (n - 1 - i) else f i
theorem revd_zero (n : Nat) (f : Nat → Value) : revd n 0 f = f := by
  funext i
  unfold revd
  rw [if_neg (by omega)]
theorem vrow_set (N : Nat) (f : Nat → Value) (i : Nat) (v : Value) : (vrow N f).set i v = vrow N (fun j => if j = i then v else f j) := by
  apply List.ext_getElem?
  intro j
  simp only [vrow, List.getElem?_set, List.length_map, List.length_range, List.getElem?_map]
  by_cases h : i = j
  · subst h; by_cases h2 : i < N <;> simp [h2]
  · have : ¬ j = i := fun e => h e.symm
    by_cases h2 : j < N <;> simp [h, this, h2]
theorem vrow_congr {n : Nat} {f g : Nat → Value} (h : ∀ i, i < n → f i = g i) : vrow n f = vrow n g := by
  apply List.map_congr_left
  intro i hi
  rw [h i (List.mem_range.1 hi)]
theorem revd_succ (N n k : Nat) (f : Nat → Value) (hN : n ≤ N) (hk : k < n - 1 - k) :
    ((vrow N (revd n k f)).set k (f (n - 1 - k))).set (n - 1 - k) (f k) = vrow N (revd n (k + 1) f) := by
  rw [vrow_set, vrow_set]
  apply vrow_congr
  intro i hi
  simp only [revd]
  by_cases h1 : i = n - 1 - k
  · rw [if_pos h1, if_pos (by omega)]
    congr 1
    omega
  · rw [if_neg h1]
    by_cases h2 : i = k
    · rw [if_pos h2, if_pos (by omega)]
      subst h2
      rfl
    · rw [if_neg h2]
      by_cases h3 : i < n ∧ (i < k ∨ n ≤ i + k)
      · rw [if_pos h3, if_pos (by omega)]
      · rw [if_neg h3, if_neg (by omega)]
theorem revd_end (N n k : Nat) (f : Nat → Value) (hN : n ≤ N) (hk : ¬ k < n - 1 - k) (hk2 : 2 * k ≤ n) :
    vrow N (revd n k f) = vrow N (fun i => if i < n then f (n - 1 - i) else f i) := by
  apply vrow_congr
  intro i hi
  simp only [revd]
  by_cases h1 : i < n
  · rw [if_pos h1]
    by_cases h3 : i < k ∨ n ≤ i + k
    · rw [if_pos ⟨h1, h3⟩]
    · rw [if_neg (by omega)]
      congr 1
      omega
  · rw [if_neg h1, if_neg (by omega)]

/-- All blocks but g lie as they lay. -/
def But (g : Nat) (w w' : World) : Prop := w'.os = w.os ∧ w'.tape = w.tape ∧ w'.output = w.output ∧ w'.heap.size = w.heap.size ∧ ∀ k, k ≠ g → w'.heap[k]? = w.heap[k]?
theorem But.refl (g : Nat) (w : World) : But g w w := ⟨rfl, rfl, rfl, rfl, fun _ _ => rfl⟩
theorem But.trans {g : Nat} {w w' w'' : World} (h : But g w w') (k : But g w' w'') : But g w w'' := ⟨k.1.trans h.1, k.2.1.trans h.2.1, k.2.2.1.trans h.2.2.1, k.2.2.2.1.trans h.2.2.2.1, fun j hj => (k.2.2.2.2 j hj).trans (h.2.2.2.2 j hj)⟩
theorem But.drew {g : Nat} {w w' : World} (h : But g w w') : But g w w'.drew := h.trans ⟨rfl, rfl, rfl, rfl, fun _ _ => rfl⟩
theorem But.drewN {g : Nat} {w w' : World} (h : But g w w') (n : Nat) : But g w (w'.drewN n) := h.trans ⟨rfl, rfl, rfl, rfl, fun _ _ => rfl⟩
theorem But.setCell {g : Nat} {w w' : World} (h : But g w w') (i : Nat) (v : Value) : But g w (w'.setCell ⟨g, i, none⟩ v) := h.trans ⟨rfl, rfl, rfl, by simp [World.setCell], fun j hj => Below.heap_setCell w' _ v j hj⟩
theorem But.below {g B : Nat} {w w' : World} (h : But g w w') (hB : B ≤ g) : Below B w w' := ⟨h.1, h.2.1, h.2.2.1, by rw [h.2.2.2.1]; exact Nat.le_refl _, fun j hj => h.2.2.2.2 j (by omega)⟩

def RevPost (n N g : Nat) (e : TypeId) (f : Nat → Value) (w : World) (en : Ending) (w' : World) : Prop := (∃ v, en = .returned v) ∧ Row w' g e (vrow N (fun i => if i < n then f (n - 1 - i) else f i)) ∧ But g w w'
theorem noWay_rev {P : Program} {fn : Func} {n N g : Nat} {e : TypeId} {f : Nat → Value} {w : World} : NoWay (bodyPost P fn (RevPost n N g e f w)) :=
  noWay_body (fun _ _ h => by obtain ⟨⟨_, h⟩, _⟩ := h; cases h) (fun _ h => by obtain ⟨⟨_, h⟩, _⟩ := h; cases h)

set_option maxRecDepth 20000 in
set_option maxHeartbeats 2000000 in
theorem reverse_rows (n cap N g : Nat) (e : TypeId) (f : Nat → Value) (w : World) (hn : n ≤ 100000) (hN : n ≤ N) (hr : Row w g e (vrow N f)) (hV : ∀ i, i < n → ∃ ao l c, f i = .slice ao l c) :
    Calls Try.prog 14 #[.slice (some ⟨g, 0, none⟩) n cap] w (RevPost n N g e f w) := by
  have HV := Lib.hid hV
  clear hV
  go_enter Try.func14, Try.ntmps14
  go_wp2
  go_loopw [2, 3] (fun i j wr => ∃ k : Nat, 2 * k ≤ n ∧ i = .int .i64 k ∧ j = .int .i64 ((n : Int) - 1 - k) ∧ Row wr g e (vrow N (revd n k f)) ∧ But g w wr) (fun i _ _ => n - (intOf i).toNat)
  case atStart => exact ⟨0, Nat.zero_le _, rfl, by simp, by rw [revd_zero]; exact hr, But.refl _ _⟩
  case round =>
    obtain ⟨k, hk, rfl, rfl, hrow, hB⟩ := hrel
    by_cases hkn : k < n - 1 - k
    · obtain ⟨q, hq⟩ : ∃ q : Nat, q = n - 1 - k := ⟨_, rfl⟩
      have hq2 : ((n : Int) - 1 - k) = q := by omega
      rw [hq2]
      have c1 := hrow.cell (vrow_get (revd n k f) (show k < N by omega))
      have c2 := hrow.cell (vrow_get (revd n k f) (show q < N by omega))
      have e1 : revd n k f k = f k := by unfold revd; rw [if_neg (by omega)]
      have e2 : revd n k f q = f q := by unfold revd; rw [if_neg (by omega)]
      rw [e1] at c1
      rw [e2] at c2
      have hfr : ∀ i, wr.frozen? ⟨g, i, none⟩ = false := hrow.frozen
      have hset := revd_succ N n k f hN hkn
      rw [← hq] at hset
      have hrow2 := (hrow.setCell k (f q)).setCell q (f k)
      rw [hset] at hrow2
      obtain ⟨a1, l1, p1, hv1⟩ := HV.out k (by omega)
      obtain ⟨a2, l2, p2, hv2⟩ := HV.out q (by omega)
      rw [hv1] at c1 hrow2
      rw [hv2] at c2 hrow2
      have HR := Lib.hid hrow2
      have hkq : k < q := by omega
      have hq3 : q + k + 1 = n := by omega
      clear hrow hrow2 hset e1 e2 hq2 hq hkn hv1 hv2
      go_wp2
      refine wp_region_pieces [(true, [0, 1, 2, 3, 4, 5, 6, 7, 8, 9, 10, 11, 12]), (false, [13, 14, 15])] (by kernel_rfl) (by kernel_rfl) (by kernel_rfl) (noWay_rev (P := Try.prog) (fn := Try.f14) (n := n) (N := N) (g := g) (e := e) (f := f) (w := w)) ?_
      simp only [wpPieces, picks, List.drop_succ_cons, List.drop_zero, List.take_succ_cons, List.take_zero, List.cons_append, List.nil_append]
      go_wp2
      refine ⟨trivial, ?_⟩
      go_wp2
      go_roundw
      case rel => exact ⟨k + 1, by omega, by go_num, by go_num, HR.out, (hB.drew.setCell _ _).setCell _ _⟩
      case measure => simp [intOf]; omega
    · have hrow2 := hrow.to (revd_end N n k f hN hkn hk)
      go_wp2
      go_end0
      exact ⟨⟨_, rfl⟩, hrow2, hB⟩

/-- clip of one slice. -/
theorem clip_row (n cap g o : Nat) (w : World) (hc : n ≤ cap) :
    Calls Try.prog 21 #[.slice (some ⟨g, o, none⟩) n cap] w (fun en w' => en = .returned (.slice (some ⟨g, o, none⟩) n n) ∧ w' = w) := by
  go_enter Try.func21, Try.ntmps21
  go_wp2
  go_ret
  exact ⟨rfl, rfl⟩
theorem clip_rows (n cap g o : Nat) (w : World) (hc : n ≤ cap) :
    Calls Try.prog 22 #[.slice (some ⟨g, o, none⟩) n cap] w (fun en w' => en = .returned (.slice (some ⟨g, o, none⟩) n n) ∧ w' = w) := by
  go_enter Try.func22, Try.ntmps22
  go_wp2
  go_ret
  exact ⟨rfl, rfl⟩

end Go.Proofs.Ytblcphibkcjmdaa
